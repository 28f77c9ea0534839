/-
  The tables of functions.
-/
import Derived.Test.YtjlebgfbohihfaaGreatGr1
import Derived.Test.YtjlebgfbohihfaaGreatGr2
import Derived.Test.YtjlebgfbohihfaaGreatAmZ2
import Derived.Laws.StandIn
namespace Go.Proofs.YtjlebgfbohihfaaGreat.Am
/-- Where a byte stands first in a string. -/
def specIndexByte : List AVal → Hp → Option (AVal × Hp)
  | [.c (.str s), .c (.int .u8 n)], h => some (.c (.int .i64 (Go.firstIdx ⟨s.toArray⟩ n.toNat.toUInt8)), h)
  | _, _ => none
/-- How often a byte stands in a string. -/
def specCount : List AVal → Hp → Option (AVal × Hp)
  | [.c (.str s), .c (.int .u8 n)], h => some (.c (.int .i64 (s.count n.toNat.toUInt8 : Nat)), h)
  | _, _ => none
/-- A sum of two words and a carry. -/
def specAdd64 : List AVal → Hp → Option (AVal × Hp)
  | [.c (.int .u64 x), .c (.int .u64 y), .c (.int .u64 c)], h =>
    if 0 ≤ x ∧ 0 ≤ y ∧ 0 ≤ c ∧ c ≤ 1 then some (.tup [.inl (.int .u64 ((x + y + c) % 18446744073709551616)), .inl (.int .u64 ((x + y + c) / 18446744073709551616))], h) else none
  | _, _ => none
def TB : TT := (br (br (lf 7 F7) 17 F17 .e) 18 F18 (br (lf 296 F296) 309 F309 .e))
/-- check's means: the range over the scopes, last first. -/
def FB279 : BackF :=
  { np := 2
    pre := .ops [o 3 (.box (.t 1)),o 4 (.alloc [(.int .i64 0)]),o 5 (.alloc [(.bool false)])]
    pre2 := .ops [o 13 (.mv (.t 0)),o 14 (.nilck (.t 13)),o 15 (.fa 9 (.t 14)),o 16 (.ld (.t 15)),o 17 (.call 296 [(.t 16)])]
    t := 17
    bf := 309
    p := 18
    q := 19
    asg := .ops [o 7 (.mv (.t 19))]
    bd := .block 1 (.seq (.ops [o 21 (.mv (.t 7)),o 22 (.ld (.t 3)),o 23 (.lk true (.c (.int .i64 0)) true (.t 21) (.t 22)),o 20 (.mv (.t 23)),o 24 (.ext 0 (.t 20)),o 25 (.ext 1 (.t 20)),o 8 (.mv (.t 24)),o 9 (.mv (.t 25))])
 (.seq (.ops [o 26 (.mv (.t 9))])
 (.cond (.t 26) (.seq (.ops [o 27 (.mv (.t 8)),e (.st 1 (.t 4) (.t 27)),e (.st 1 (.t 5) (.k (.c (.bool true))))])
 .ret)
 .skip)))
    rest := (.seq (.dops [.op 0 (o 29 (.ld (.t 3))),.op 1 (o 30 (.mv (.t 0))),.flt 11 (o 11 (.alloc [(.int .i64 0),(.int .i64 0)])) [o 29 (.ld (.t 3))],.op 2 (o 31 (.nilck (.t 30))),.op 3 (o 32 (.fa 0 (.t 31))),.op 4 (o 33 (.fa 1 (.t 32))),.op 5 (o 34 (.ld (.t 33))),.eff 6 (o 35 (.call 7 [(.t 29),(.t 34)])) [o 11 (.alloc [(.int .i64 0),(.int .i64 0)])],.op 7 (o 28 (.mv (.t 35))),.op 8 (o 36 (.ext 0 (.t 28))),.op 9 (o 37 (.ext 1 (.t 28))),.op 10 (o 38 (.ext 2 (.t 28))),.op 12 (o 10 (.mv (.t 36))),.eff 13 (e (.st 2 (.t 11) (.t 37))) [],.op 14 (o 12 (.mv (.t 38)))])
 (.keep [4,5,10,12] (.seq (.ops [o 39 (.mv (.t 10)),o 40 (.mv (.t 12)),e (.st 1 (.t 4) (.t 39)),e (.st 1 (.t 5) (.t 40))])
 .ret)))
    res := [.cell 4,.cell 5] }
def specMeans : List AVal → Hp → Option (AVal × Hp) := backRun TB.get 100000 FB279


def TG : TT := (br (.n (br (br (br (br (br (br (lf 3 F3) 4 F4 .e) 5 F5 (lf 6 F6)) 7 F7 (br (br (lf 8 F8) 9 F9 .e) 10 F10 (lf 11 F11))) 12 F12 (br (br (br (lf 13 F13) 14 F14 .e) 15 F15 (lf 16 F16)) 17 F17 (br (br (lf 18 F18) 19 F19 .e) 20 F20 (lf 21 F21)))) 22 F22 (br (br (br (br (lf 23 F23) 24 F24 .e) 25 F25 (lf 26 F26)) 27 F27 (br (br (lf 28 F28) 29 F29 .e) 30 F30 (lf 31 F31))) 32 F32 (br (br (br (lf 33 F33) 34 F34 .e) 35 F35 (lf 36 F36)) 37 F37 (br (br (lf 38 F38) 39 F39 .e) 40 F40 (lf 41 F41))))) 42 F42 (br (br (br (br (br (lf 43 F43) 44 F44 .e) 45 F45 (lf 46 F46)) 47 F47 (br (br (lf 48 F48) 49 F49 .e) 50 F50 (lf 51 F51))) 52 F52 (br (br (br (lf 53 F53) 54 F54 .e) 55 F55 (lf 56 F56)) 57 F57 (br (br (lf 58 F58) 59 F59 .e) 60 F60 (lf 61 F61)))) 62 F62 (br (br (br (br (lf 63 F63) 64 F64 .e) 65 F65 (lf 66 F66)) 67 F67 (br (br (lf 68 F68) 69 F69 .e) 70 F70 (lf 71 F71))) 72 F72 (br (br (br (lf 73 F73) 74 F74 .e) 75 F75 (lf 76 F76)) 77 F77 (br (lf 78 F78) 79 F79 (lf 80 F80)))))) 81 (.spec specAdd64) (br (br (br (br (br (br (lf 82 F82) 83 F83 .e) 84 F84 (lf 85 F85)) 86 F86 (br (br (lf 87 F87) 88 F88 .e) 89 F89 (lf 90 F90))) 91 F91 (br (br (br (lf 92 F92) 93 F93 .e) 94 F94 (lf 95 F95)) 96 F96 (br (br (lf 97 F97) 98 F98 .e) 99 F99 (lf 100 F100)))) 101 F101 (br (br (br (br (lf 102 F102) 103 F103 .e) 104 F104 (lf 105 F105)) 106 F106 (br (br (lf 107 F107) 108 F108 .e) 109 F109 (lf 110 F110))) 111 F111 (br (br (br (lf 112 F112) 113 F113 .e) 114 F114 (lf 115 F115)) 116 F116 (br (br (lf 117 F117) 118 F118 .e) 119 F119 (lf 120 F120))))) 121 F121 (br (br (br (br (br (lf 122 F122) 123 F123 .e) 124 F124 (lf 125 F125)) 126 F126 (br (br (lf 127 F127) 128 F128 .e) 129 F129 (lf 130 F130))) 131 F131 (br (br (br (lf 132 F132) 133 F133 .e) 134 F134 (lf 135 F135)) 136 F136 (br (br (lf 137 F137) 138 F138 .e) 139 F139 (lf 140 F140)))) 141 F141 (br (br (br (br (lf 142 F142) 143 F143 .e) 144 F144 (lf 145 F145)) 146 F146 (br (br (lf 147 F147) 148 F148 .e) 149 F149 (lf 150 F150))) 151 F151 (br (br (br (lf 152 F152) 153 F153 .e) 154 F154 (lf 155 F155)) 156 F156 (br (lf 157 F157) 158 F158 (lf 159 F159))))))) 160 F160 (br (br (br (br (br (br (br (lf 161 F161) 162 F162 .e) 163 F163 (lf 164 F164)) 165 F165 (br (br (lf 166 F166) 167 F167 .e) 168 F168 (lf 169 F169))) 170 F170 (br (br (br (lf 171 F171) 172 F172 .e) 173 F173 (lf 174 F174)) 175 F175 (br (br (lf 176 F176) 177 F177 .e) 178 F178 (lf 179 F179)))) 180 F180 (br (br (br (br (lf 181 F181) 182 F182 .e) 183 F183 (lf 184 F184)) 185 F185 (br (.n (lf 186 F186) 187 (.spec specCount) .e) 188 F188 (lf 189 F189))) 190 F190 (br (br (br (lf 191 F191) 192 F192 .e) 193 F193 (lf 194 F194)) 195 F195 (br (br (lf 196 F196) 197 F197 .e) 198 F198 (lf 199 F199))))) 200 F200 (br (br (br (br (br (lf 201 F201) 202 F202 .e) 203 F203 (lf 204 F204)) 205 F205 (br (br (lf 206 F206) 207 F207 .e) 208 F208 (lf 209 F209))) 210 F210 (br (br (br (lf 211 F211) 212 F212 .e) 213 F213 (lf 214 F214)) 215 F215 (br (br (lf 216 F216) 217 F217 .e) 218 F218 (lf 219 F219)))) 220 F220 (br (br (.n (br (lf 221 F221) 222 F222 .e) 223 (.spec specIndexByte) (lf 225 F225)) 226 F226 (br (br (lf 227 F227) 228 F228 .e) 229 F229 (lf 230 F230))) 231 F231 (br (br (br (lf 232 F232) 233 F233 .e) 234 F234 (lf 235 F235)) 236 F236 (br (lf 237 F237) 238 F238 (lf 239 F239)))))) 240 F240 (br (br (br (br (br (br (lf 241 F241) 242 F242 .e) 243 F243 (lf 244 F244)) 245 F245 (br (br (lf 246 F246) 247 F247 .e) 248 F248 (lf 249 F249))) 250 F250 (br (br (br (lf 251 F251) 252 F252 .e) 253 F253 (lf 254 F254)) 255 F255 (br (br (lf 256 F256) 257 F257 .e) 258 F258 (lf 259 F259)))) 260 F260 (br (br (br (br (lf 261 F261) 262 F262 .e) 263 F263 (lf 264 F264)) 265 F265 (br (br (lf 266 F266) 267 F267 .e) 268 F268 (lf 269 F269))) 270 F270 (br (br (br (lf 271 F271) 272 F272 .e) 273 F273 (lf 274 F274)) 275 F275 (br (br (lf 276 F276) 277 F277 .e) 278 F278 (.n .e 279 (.spec specMeans) .e))))) 280 F280 (br (br (br (br (br (lf 281 F281) 282 F282 .e) 283 F283 (lf 284 F284)) 285 F285 (br (br (lf 286 F286) 287 F287 .e) 288 F288 (lf 289 F289))) 290 F290 (br (br (br (lf 291 F291) 292 F292 .e) 293 F293 (lf 294 F294)) 295 F295 (br (br (lf 296 F296) 297 F297 .e) 298 F298 (lf 299 F299)))) 300 F300 (br (br (br (br (lf 301 F301) 302 F302 .e) 303 F303 (lf 304 F304)) 305 F305 (br (br (lf 306 F306) 307 F307 .e) 308 F308 (lf 309 F309))) 310 F310 (br (br (br (lf 311 F311) 312 F312 .e) 313 F313 (lf 314 F314)) 315 F315 (br (lf 316 F316) 317 F317 (lf 318 F318))))))))
end Go.Proofs.YtjlebgfbohihfaaGreat.Am
