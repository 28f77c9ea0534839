import Derived.Test.YtjlebgfbohihfaaGreatMC
namespace Go.Proofs.YtjlebgfbohihfaaGreat.Am
open Go
set_option linter.unusedVariables false
set_option linter.unusedSimpArgs false

def R11 : ACode := (.seq (.seq (.ops [o 57 (.ld (.t 4))])
 (.block 0 (.seq (.ops [o 59 (.bin 0 .eql (.t 57) (ki 29)),o 58 (.mv (.t 59))])
 (.cond (.t 58) (.seq (.ops [o 60 (.ixp 4 1 (.t 11) (ki 0)),o 61 (.ld (.t 60)),o 62 (.ixp 4 1 (.t 12) (ki 0)),o 63 (.ld (.t 62)),o 64 (.bin 0 .lss (.t 61) (.t 63)),o 65 (.call 23 [(.t 64)]),o 66 (.agg [(.int .i32 0),(.int .i32 0),(.int .i32 0),(.int .i32 0)] [(0,1,(.t 65))]),e (.st 4 (.t 8) (.t 66)),o 9 (.mv (ki 0))])
 .ret)
 (.seq (.ops [o 68 (.bin 0 .eql (.t 57) (ki 30)),o 67 (.mv (.t 68))])
 (.cond (.t 67) (.seq (.ops [o 69 (.ixp 4 1 (.t 11) (ki 0)),o 70 (.ld (.t 69)),o 71 (.ixp 4 1 (.t 12) (ki 0)),o 72 (.ld (.t 71)),o 73 (.bin 0 .gtr (.t 70) (.t 72)),o 74 (.call 23 [(.t 73)]),o 75 (.agg [(.int .i32 0),(.int .i32 0),(.int .i32 0),(.int .i32 0)] [(0,1,(.t 74))]),e (.st 4 (.t 8) (.t 75)),o 9 (.mv (ki 0))])
 .ret)
 (.seq (.ops [o 77 (.bin 0 .eql (.t 57) (ki 31)),o 76 (.mv (.t 77))])
 (.cond (.t 76) (.seq (.ops [o 78 (.ixp 4 1 (.t 11) (ki 0)),o 79 (.ld (.t 78)),o 80 (.ixp 4 1 (.t 12) (ki 0)),o 81 (.ld (.t 80)),o 82 (.bin 0 .leq (.t 79) (.t 81)),o 83 (.call 23 [(.t 82)]),o 84 (.agg [(.int .i32 0),(.int .i32 0),(.int .i32 0),(.int .i32 0)] [(0,1,(.t 83))]),e (.st 4 (.t 8) (.t 84)),o 9 (.mv (ki 0))])
 .ret)
 (.seq (.ops [o 86 (.bin 0 .eql (.t 57) (ki 32)),o 85 (.mv (.t 86))])
 (.keep [1,2,4,8,11,12,13,57,85] (.cond (.t 85) (.seq (.ops [o 87 (.ixp 4 1 (.t 11) (ki 0)),o 88 (.ld (.t 87)),o 89 (.ixp 4 1 (.t 12) (ki 0)),o 90 (.ld (.t 89)),o 91 (.bin 0 .geq (.t 88) (.t 90)),o 92 (.call 23 [(.t 91)]),o 93 (.agg [(.int .i32 0),(.int .i32 0),(.int .i32 0),(.int .i32 0)] [(0,1,(.t 92))]),e (.st 4 (.t 8) (.t 93)),o 9 (.mv (ki 0))])
 .ret)
 (.seq (.ops [o 95 (.bin 0 .eql (.t 57) (ki 33)),o 94 (.mv (.t 95))])
 (.cond (.t 94) (.seq (.ops [o 96 (.mv (.t 2)),o 97 (.ldn 4 (.t 11)),o 98 (.ldn 4 (.t 12)),o 99 (.call 24 [(.t 96),(.t 97),(.t 98)]),o 100 (.call 23 [(.t 99)]),o 101 (.agg [(.int .i32 0),(.int .i32 0),(.int .i32 0),(.int .i32 0)] [(0,1,(.t 100))]),e (.st 4 (.t 8) (.t 101)),o 9 (.mv (ki 0))])
 .ret)
 (.seq (.ops [o 103 (.bin 0 .eql (.t 57) (ki 34)),o 102 (.mv (.t 103))])
 (.cond (.t 102) (.seq (.ops [o 104 (.mv (.t 2)),o 105 (.ldn 4 (.t 11)),o 106 (.ldn 4 (.t 12)),o 107 (.call 24 [(.t 104),(.t 105),(.t 106)]),o 108 (.un .not (.t 107)),o 109 (.call 23 [(.t 108)]),o 110 (.agg [(.int .i32 0),(.int .i32 0),(.int .i32 0),(.int .i32 0)] [(0,1,(.t 109))]),e (.st 4 (.t 8) (.t 110)),o 9 (.mv (ki 0))])
 .ret)
 (.seq (.ops [o 112 (.bin 0 .eql (.t 57) (ki 35)),o 111 (.mv (.t 112))])
 (.keep [1,2,4,8,11,12,13,111] (.cond (.t 111) (.seq (.ops [o 113 (.ixp 4 1 (.t 11) (ki 0)),o 114 (.ld (.t 113)),o 115 (.bin 0 .eql (.t 114) (.k (.c (.int .i32 0)))),o 116 (.call 23 [(.t 115)]),o 117 (.agg [(.int .i32 0),(.int .i32 0),(.int .i32 0),(.int .i32 0)] [(0,1,(.t 116))]),e (.st 4 (.t 8) (.t 117)),o 9 (.mv (ki 0))])
 .ret)
 .skip))))))))))))))))))
 (.keep [1,2,4,8,11,12,13] (.seq (.seq (.ops [o 118 (.mv (.t 1)),o 119 (.bin 0 .eql (.t 118) (ki 2))])
 (.cond (.t 119) (.seq (.ops [o 120 (.mv (.t 2)),o 121 (.mkf 26 [] [(.t 4),(.t 11),(.t 12)]),o 122 (.call 25 [(.t 120),(.t 121)]),e (.st 4 (.t 8) (.t 122)),o 9 (.mv (ki 0))])
 .ret)
 .skip))
 (.seq (.seq (.ops [o 123 (.ld (.t 4))])
 (.keep [2,4,8,11,12,13,123] (.block 1 (.seq (.seq (.ops [o 125 (.bin 0 .eql (.t 123) (ki 24)),o 124 (.mv (.t 125))])
 (.cond (.t 124) .skip
 (.seq (.ops [o 126 (.bin 0 .eql (.t 123) (ki 25)),o 124 (.mv (.t 126))])
 (.cond (.t 124) .skip
 (.seq (.ops [o 127 (.bin 0 .eql (.t 123) (ki 26)),o 124 (.mv (.t 127))])
 (.cond (.t 124) .skip
 (.ops [o 128 (.bin 0 .eql (.t 123) (ki 27)),o 124 (.mv (.t 128))])))))))
 (.keep [2,4,8,11,12,13,123,124] (.cond (.t 124) (.seq (.ops [o 129 (.ld (.t 4)),o 130 (.bin 0 .add (ki 0) (.t 129)),o 131 (.bin 0 .sub (.t 130) (ki 24)),o 132 (.mv (.t 2)),o 133 (.ldn 4 (.t 11)),o 134 (.ldn 4 (.t 12)),o 135 (.call 28 [(.t 131),(.t 132),(.t 133),(.t 134)]),o 136 (.ext 0 (.t 135)),o 137 (.ext 1 (.t 135)),e (.st 4 (.t 8) (.t 136)),o 9 (.mv (.t 137))])
 .ret)
 (.seq (.ops [o 139 (.bin 0 .eql (.t 123) (ki 28)),o 138 (.mv (.t 139))])
 (.cond (.t 138) (.seq (.ops [o 140 (.mv (.t 2)),o 141 (.ldn 4 (.t 11)),o 142 (.call 29 [(ki 0),(.t 140),(.t 141)]),o 143 (.ext 0 (.t 142)),o 144 (.ext 1 (.t 142)),e (.st 4 (.t 8) (.t 143)),o 9 (.mv (.t 144))])
 .ret)
 (.seq (.seq (.ops [o 146 (.bin 0 .eql (.t 123) (ki 1)),o 145 (.mv (.t 146))])
 (.cond (.t 145) .skip
 (.seq (.ops [o 147 (.bin 0 .eql (.t 123) (ki 2)),o 145 (.mv (.t 147))])
 (.cond (.t 145) .skip
 (.seq (.ops [o 148 (.bin 0 .eql (.t 123) (ki 3)),o 145 (.mv (.t 148))])
 (.keep [2,4,8,11,12,13,123,145] (.cond (.t 145) .skip
 (.ops [o 149 (.bin 0 .eql (.t 123) (ki 4)),o 145 (.mv (.t 149))]))))))))
 (.cond (.t 145) (.seq (.ops [o 150 (.ld (.t 4)),o 151 (.bin 0 .add (ki 1) (.t 150)),o 152 (.bin 0 .sub (.t 151) (ki 1)),o 153 (.mv (.t 2)),o 154 (.ldn 4 (.t 11)),o 155 (.call 29 [(.t 152),(.t 153),(.t 154)]),o 156 (.ext 0 (.t 155)),o 157 (.ext 1 (.t 155)),e (.st 4 (.t 8) (.t 156)),o 9 (.mv (.t 157))])
 .ret)
 (.seq (.seq (.ops [o 159 (.bin 0 .eql (.t 123) (ki 12)),o 158 (.mv (.t 159))])
 (.keep [2,4,8,11,12,13,123,158] (.cond (.t 158) .skip
 (.seq (.ops [o 160 (.bin 0 .eql (.t 123) (ki 13)),o 158 (.mv (.t 160))])
 (.cond (.t 158) .skip
 (.ops [o 161 (.bin 0 .eql (.t 123) (ki 14)),o 158 (.mv (.t 161))]))))))
 (.cond (.t 158) (.seq (.ops [o 162 (.ld (.t 4)),o 163 (.bin 0 .add (ki 4) (.t 162)),o 164 (.bin 0 .sub (.t 163) (ki 12)),o 165 (.mv (.t 2)),o 166 (.ldn 4 (.t 11)),o 167 (.ldn 4 (.t 12)),o 168 (.call 28 [(.t 164),(.t 165),(.t 166),(.t 167)]),o 169 (.ext 0 (.t 168)),o 170 (.ext 1 (.t 168)),e (.st 4 (.t 8) (.t 169)),o 9 (.mv (.t 170))])
 .ret)
 (.seq (.ops [o 172 (.bin 0 .eql (.t 123) (ki 16)),o 171 (.mv (.t 172))])
 (.cond (.t 171) (.seq (.ops [o 173 (.mv (.t 2)),o 174 (.ldn 4 (.t 11)),o 175 (.ldn 4 (.t 12)),o 176 (.call 28 [(ki 7),(.t 173),(.t 174),(.t 175)]),o 177 (.ext 0 (.t 176)),o 178 (.ext 1 (.t 176)),e (.st 4 (.t 8) (.t 177)),o 9 (.mv (.t 178))])
 .ret)
 (.seq (.ops [o 180 (.bin 0 .eql (.t 123) (ki 15)),o 179 (.mv (.t 180))])
 (.keep [2,4,8,11,12,13,123,179] (.cond (.t 179) (.seq (.ops [o 181 (.mv (.t 2)),o 182 (.mkf 30 [] [(.t 11),(.t 12)]),o 183 (.call 25 [(.t 181),(.t 182)]),e (.st 4 (.t 8) (.t 183)),o 9 (.mv (ki 0))])
 .ret)
 (.seq (.ops [o 185 (.bin 0 .eql (.t 123) (ki 17)),o 184 (.mv (.t 185))])
 (.cond (.t 184) (.seq (.ops [o 186 (.mv (.t 2)),o 187 (.ldn 4 (.t 11)),o 188 (.ldn 4 (.t 12)),o 189 (.ldn 4 (.t 13)),o 190 (.call 32 [(.t 186),(.t 187),(.t 188),(.t 189)]),o 191 (.ext 0 (.t 190)),o 192 (.ext 1 (.t 190)),e (.st 4 (.t 8) (.t 191)),o 9 (.mv (.t 192))])
 .ret)
 (.seq (.ops [o 194 (.bin 0 .eql (.t 123) (ki 18)),o 193 (.mv (.t 194))])
 (.cond (.t 193) (.seq (.ops [o 195 (.mv (.t 2)),o 196 (.ldn 4 (.t 11)),o 197 (.ldn 4 (.t 12)),o 198 (.ldn 4 (.t 13)),o 199 (.call 33 [(.t 195),(.t 196),(.t 197),(.t 198)]),o 200 (.ext 0 (.t 199)),o 201 (.ext 1 (.t 199)),e (.st 4 (.t 8) (.t 200)),o 9 (.mv (.t 201))])
 .ret)
 (.seq (.ops [o 203 (.bin 0 .eql (.t 123) (ki 19)),o 202 (.mv (.t 203))])
 (.cond (.t 202) (.seq (.ops [o 205 (.mv (.t 2)),o 206 (.ldn 4 (.t 11)),o 207 (.ldn 4 (.t 12)),o 208 (.call 34 [(.t 205),(.t 206),(.t 207)]),o 204 (.mv (.t 208)),o 209 (.ext 0 (.t 204)),o 210 (.ext 1 (.t 204)),o 14 (.mv (.t 209)),o 15 (.mv (.t 210))])
 (.keep [8,14,15] (.seq (.ops [o 211 (.mv (.t 14)),o 212 (.agg [(.int .i32 0),(.int .i32 0),(.int .i32 0),(.int .i32 0)] [(0,1,(.t 211))]),o 213 (.mv (.t 15)),e (.st 4 (.t 8) (.t 212)),o 9 (.mv (.t 213))])
 .ret)))
 (.seq (.ops [o 215 (.bin 0 .eql (.t 123) (ki 21)),o 214 (.mv (.t 215))])
 (.keep [2,4,8,11,12,123,214] (.cond (.t 214) (.seq (.ops [o 216 (.ldn 4 (.t 11)),o 217 (.ldn 4 (.t 12)),o 218 (.call 35 [(.t 216),(.t 217)]),e (.st 4 (.t 8) (.t 218)),o 9 (.mv (ki 0))])
 .ret)
 (.seq (.ops [o 220 (.bin 0 .eql (.t 123) (ki 11)),o 219 (.mv (.t 220))])
 (.cond (.t 219) (.seq (.ops [o 221 (.ldn 4 (.t 11)),o 222 (.mv (.t 2)),o 223 (.call 36 [(.t 221),(.t 222)]),e (.st 4 (.t 8) (.t 223)),o 9 (.mv (ki 0))])
 .ret)
 (.seq (.ops [o 225 (.bin 0 .eql (.t 123) (ki 20)),o 224 (.mv (.t 225))])
 (.cond (.t 224) (.seq (.ops [o 226 (.ldn 4 (.t 11)),o 227 (.mv (.t 2)),o 228 (.call 37 [(.t 226),(.t 227)]),o 229 (.agg [(.int .i32 0),(.int .i32 0),(.int .i32 0),(.int .i32 0)] [(0,1,(.t 228))]),e (.st 4 (.t 8) (.t 229)),o 9 (.mv (ki 0))])
 .ret)
 .skip))))))))))))))))))))))))))))))
 (.keep [2,4,8,11] (.seq (.ops [o 230 (.ld (.t 4)),o 231 (.call 38 [(.t 230)]),o 16 (.alloc [.nilfn]),e (.st 1 (.t 16) (.t 231))])
 (.seq (.ops [o 232 (.mv (.t 2)),o 233 (.mkf 39 [] [(.t 16),(.t 11)]),o 234 (.call 25 [(.t 232),(.t 233)]),e (.st 4 (.t 8) (.t 234)),o 9 (.mv (ki 0))])
 .ret)))))))
theorem r11_29 {Q : AExit → St → Prop} {K : List KI} {h0 : Hp} {n b4 b8 b11 b12 b13 : Nat} {base : Int} {a b t : Nat → Int} {e : Env} {H : Hp} (hn : 1 ≤ n ∧ n ≤ 4) (ha : VI a) (hb : VI b) (ht : VI t)
    (h8 : h0.next ≤ b8) (l4 : b4 < H.next) (l8 : b8 < H.next) (l11 : b11 < H.next) (l12 : b12 < H.next) (l13 : b13 < H.next) (hx0 : Ext h0 H)
    (g1 : e.get 1 = i64 base) (g2 : e.get 2 = i64 (n : Int)) (g4 : e.get 4 = .c (.ptr b4 0)) (g8 : e.get 8 = .c (.ptr b8 0)) (g11 : e.get 11 = .c (.ptr b11 0)) (g12 : e.get 12 = .c (.ptr b12 0)) (g13 : e.get 13 = .c (.ptr b13 0))
    (k4 : H.get b4 = some (.cells [.int .i64 29] true)) (k8 : H.get b8 = some (vb fun _ => 0)) (k11 : H.get b11 = some (vb a)) (k12 : H.get b12 = some (vb b)) (k13 : H.get b13 = some (vb t))
    (hK : ∀ (e' : Env) (H' : Hp), Ext h0 H' → e'.get 8 = .c (.ptr b8 0) → e'.get 9 = i64 0 → H'.get b8 = some (vb (onlyS (bitS (decide (a 0 < b 0))))) → wpK T Q K .ret ⟨e', H', [], none⟩) :
    wpK T Q (.code R11 :: K) .normal ⟨e, H, [], none⟩ := by
  simp [R11, g1, g2, g4, g8, g11, g12, g13, k4, k8, k11, k12, k13]
  refine k_call ?_; simp
  refine c23 _ _ _ ?_
  obtain ⟨x, hX⟩ : ∃ x, bitS (decide (a 0 < b 0)) = x := ⟨_, rfl⟩
  have hX' : (if decide (a 0 < b 0) = true then (1 : Int) else 0) = x := hX
  rw [hX] at hK
  rw [hX']
  simp [k8, g8]
  exact hK _ _ (hx0.set h8 _) (by simp [g8]) (by simp) (by rw [Hp.get_set, if_pos rfl]; try rfl)
theorem r11_30 {Q : AExit → St → Prop} {K : List KI} {h0 : Hp} {n b4 b8 b11 b12 b13 : Nat} {base : Int} {a b t : Nat → Int} {e : Env} {H : Hp} (hn : 1 ≤ n ∧ n ≤ 4) (ha : VI a) (hb : VI b) (ht : VI t)
    (h8 : h0.next ≤ b8) (l4 : b4 < H.next) (l8 : b8 < H.next) (l11 : b11 < H.next) (l12 : b12 < H.next) (l13 : b13 < H.next) (hx0 : Ext h0 H)
    (g1 : e.get 1 = i64 base) (g2 : e.get 2 = i64 (n : Int)) (g4 : e.get 4 = .c (.ptr b4 0)) (g8 : e.get 8 = .c (.ptr b8 0)) (g11 : e.get 11 = .c (.ptr b11 0)) (g12 : e.get 12 = .c (.ptr b12 0)) (g13 : e.get 13 = .c (.ptr b13 0))
    (k4 : H.get b4 = some (.cells [.int .i64 30] true)) (k8 : H.get b8 = some (vb fun _ => 0)) (k11 : H.get b11 = some (vb a)) (k12 : H.get b12 = some (vb b)) (k13 : H.get b13 = some (vb t))
    (hK : ∀ (e' : Env) (H' : Hp), Ext h0 H' → e'.get 8 = .c (.ptr b8 0) → e'.get 9 = i64 0 → H'.get b8 = some (vb (onlyS (bitS (decide (b 0 < a 0))))) → wpK T Q K .ret ⟨e', H', [], none⟩) :
    wpK T Q (.code R11 :: K) .normal ⟨e, H, [], none⟩ := by
  simp [R11, g1, g2, g4, g8, g11, g12, g13, k4, k8, k11, k12, k13]
  refine k_call ?_; simp
  refine c23 _ _ _ ?_
  obtain ⟨x, hX⟩ : ∃ x, bitS (decide (b 0 < a 0)) = x := ⟨_, rfl⟩
  have hX' : (if decide (b 0 < a 0) = true then (1 : Int) else 0) = x := hX
  rw [hX] at hK
  rw [hX']
  simp [k8, g8]
  exact hK _ _ (hx0.set h8 _) (by simp [g8]) (by simp) (by rw [Hp.get_set, if_pos rfl]; try rfl)
theorem r11_31 {Q : AExit → St → Prop} {K : List KI} {h0 : Hp} {n b4 b8 b11 b12 b13 : Nat} {base : Int} {a b t : Nat → Int} {e : Env} {H : Hp} (hn : 1 ≤ n ∧ n ≤ 4) (ha : VI a) (hb : VI b) (ht : VI t)
    (h8 : h0.next ≤ b8) (l4 : b4 < H.next) (l8 : b8 < H.next) (l11 : b11 < H.next) (l12 : b12 < H.next) (l13 : b13 < H.next) (hx0 : Ext h0 H)
    (g1 : e.get 1 = i64 base) (g2 : e.get 2 = i64 (n : Int)) (g4 : e.get 4 = .c (.ptr b4 0)) (g8 : e.get 8 = .c (.ptr b8 0)) (g11 : e.get 11 = .c (.ptr b11 0)) (g12 : e.get 12 = .c (.ptr b12 0)) (g13 : e.get 13 = .c (.ptr b13 0))
    (k4 : H.get b4 = some (.cells [.int .i64 31] true)) (k8 : H.get b8 = some (vb fun _ => 0)) (k11 : H.get b11 = some (vb a)) (k12 : H.get b12 = some (vb b)) (k13 : H.get b13 = some (vb t))
    (hK : ∀ (e' : Env) (H' : Hp), Ext h0 H' → e'.get 8 = .c (.ptr b8 0) → e'.get 9 = i64 0 → H'.get b8 = some (vb (onlyS (bitS (decide (a 0 ≤ b 0))))) → wpK T Q K .ret ⟨e', H', [], none⟩) :
    wpK T Q (.code R11 :: K) .normal ⟨e, H, [], none⟩ := by
  simp [R11, g1, g2, g4, g8, g11, g12, g13, k4, k8, k11, k12, k13]
  refine k_call ?_; simp
  refine c23 _ _ _ ?_
  obtain ⟨x, hX⟩ : ∃ x, bitS (decide (a 0 ≤ b 0)) = x := ⟨_, rfl⟩
  have hX' : (if decide (a 0 ≤ b 0) = true then (1 : Int) else 0) = x := hX
  rw [hX] at hK
  rw [hX']
  simp [k8, g8]
  exact hK _ _ (hx0.set h8 _) (by simp [g8]) (by simp) (by rw [Hp.get_set, if_pos rfl]; try rfl)
theorem r11_32 {Q : AExit → St → Prop} {K : List KI} {h0 : Hp} {n b4 b8 b11 b12 b13 : Nat} {base : Int} {a b t : Nat → Int} {e : Env} {H : Hp} (hn : 1 ≤ n ∧ n ≤ 4) (ha : VI a) (hb : VI b) (ht : VI t)
    (h8 : h0.next ≤ b8) (l4 : b4 < H.next) (l8 : b8 < H.next) (l11 : b11 < H.next) (l12 : b12 < H.next) (l13 : b13 < H.next) (hx0 : Ext h0 H)
    (g1 : e.get 1 = i64 base) (g2 : e.get 2 = i64 (n : Int)) (g4 : e.get 4 = .c (.ptr b4 0)) (g8 : e.get 8 = .c (.ptr b8 0)) (g11 : e.get 11 = .c (.ptr b11 0)) (g12 : e.get 12 = .c (.ptr b12 0)) (g13 : e.get 13 = .c (.ptr b13 0))
    (k4 : H.get b4 = some (.cells [.int .i64 32] true)) (k8 : H.get b8 = some (vb fun _ => 0)) (k11 : H.get b11 = some (vb a)) (k12 : H.get b12 = some (vb b)) (k13 : H.get b13 = some (vb t))
    (hK : ∀ (e' : Env) (H' : Hp), Ext h0 H' → e'.get 8 = .c (.ptr b8 0) → e'.get 9 = i64 0 → H'.get b8 = some (vb (onlyS (bitS (decide (b 0 ≤ a 0))))) → wpK T Q K .ret ⟨e', H', [], none⟩) :
    wpK T Q (.code R11 :: K) .normal ⟨e, H, [], none⟩ := by
  simp [R11, g1, g2, g4, g8, g11, g12, g13, k4, k8, k11, k12, k13]
  refine k_call ?_; simp
  refine c23 _ _ _ ?_
  obtain ⟨x, hX⟩ : ∃ x, bitS (decide (b 0 ≤ a 0)) = x := ⟨_, rfl⟩
  have hX' : (if decide (b 0 ≤ a 0) = true then (1 : Int) else 0) = x := hX
  rw [hX] at hK
  rw [hX']
  simp [k8, g8]
  exact hK _ _ (hx0.set h8 _) (by simp [g8]) (by simp) (by rw [Hp.get_set, if_pos rfl]; try rfl)
theorem r11_35 {Q : AExit → St → Prop} {K : List KI} {h0 : Hp} {n b4 b8 b11 b12 b13 : Nat} {base : Int} {a b t : Nat → Int} {e : Env} {H : Hp} (hn : 1 ≤ n ∧ n ≤ 4) (ha : VI a) (hb : VI b) (ht : VI t)
    (h8 : h0.next ≤ b8) (l4 : b4 < H.next) (l8 : b8 < H.next) (l11 : b11 < H.next) (l12 : b12 < H.next) (l13 : b13 < H.next) (hx0 : Ext h0 H)
    (g1 : e.get 1 = i64 base) (g2 : e.get 2 = i64 (n : Int)) (g4 : e.get 4 = .c (.ptr b4 0)) (g8 : e.get 8 = .c (.ptr b8 0)) (g11 : e.get 11 = .c (.ptr b11 0)) (g12 : e.get 12 = .c (.ptr b12 0)) (g13 : e.get 13 = .c (.ptr b13 0))
    (k4 : H.get b4 = some (.cells [.int .i64 35] true)) (k8 : H.get b8 = some (vb fun _ => 0)) (k11 : H.get b11 = some (vb a)) (k12 : H.get b12 = some (vb b)) (k13 : H.get b13 = some (vb t))
    (hK : ∀ (e' : Env) (H' : Hp), Ext h0 H' → e'.get 8 = .c (.ptr b8 0) → e'.get 9 = i64 0 → H'.get b8 = some (vb (onlyS (bitS (decide (a 0 = 0))))) → wpK T Q K .ret ⟨e', H', [], none⟩) :
    wpK T Q (.code R11 :: K) .normal ⟨e, H, [], none⟩ := by
  simp [R11, g1, g2, g4, g8, g11, g12, g13, k4, k8, k11, k12, k13]
  refine k_call ?_; simp
  refine c23 _ _ _ ?_
  obtain ⟨x, hX⟩ : ∃ x, bitS (decide (a 0 = 0)) = x := ⟨_, rfl⟩
  have hX' : (if decide (a 0 = 0) = true then (1 : Int) else 0) = x := hX
  rw [hX] at hK
  rw [hX']
  simp [k8, g8]
  exact hK _ _ (hx0.set h8 _) (by simp [g8]) (by simp) (by rw [Hp.get_set, if_pos rfl]; try rfl)
theorem r11_33 {Q : AExit → St → Prop} {K : List KI} {h0 : Hp} {n b4 b8 b11 b12 b13 : Nat} {base : Int} {a b t : Nat → Int} {e : Env} {H : Hp} (hn : 1 ≤ n ∧ n ≤ 4) (ha : VI a) (hb : VI b) (ht : VI t)
    (h8 : h0.next ≤ b8) (l4 : b4 < H.next) (l8 : b8 < H.next) (l11 : b11 < H.next) (l12 : b12 < H.next) (l13 : b13 < H.next) (hx0 : Ext h0 H)
    (g1 : e.get 1 = i64 base) (g2 : e.get 2 = i64 (n : Int)) (g4 : e.get 4 = .c (.ptr b4 0)) (g8 : e.get 8 = .c (.ptr b8 0)) (g11 : e.get 11 = .c (.ptr b11 0)) (g12 : e.get 12 = .c (.ptr b12 0)) (g13 : e.get 13 = .c (.ptr b13 0))
    (k4 : H.get b4 = some (.cells [.int .i64 33] true)) (k8 : H.get b8 = some (vb fun _ => 0)) (k11 : H.get b11 = some (vb a)) (k12 : H.get b12 = some (vb b)) (k13 : H.get b13 = some (vb t))
    (hK : ∀ (e' : Env) (H' : Hp), Ext h0 H' → e'.get 8 = .c (.ptr b8 0) → e'.get 9 = i64 0 → H'.get b8 = some (vb (onlyS (bitS (sameS a b n)))) → wpK T Q K .ret ⟨e', H', [], none⟩) :
    wpK T Q (.code R11 :: K) .normal ⟨e, H, [], none⟩ := by
  simp [R11, g1, g2, g4, g8, g11, g12, g13, k4, k8, k11, k12, k13]
  refine k_call ?_; simp
  refine c24 n a b hn.2 _ _ fun h1 hx1 => ?_
  have k8' := (hx1.2 b8 l8).trans k8
  obtain ⟨s, hS⟩ : ∃ s, sameS a b n = s := ⟨_, rfl⟩
  rw [hS] at hK
  rw [hS]
  cases s
  all_goals
    simp [bitS] at hK
    try simp
    refine k_call ?_; simp
    refine c23 _ _ _ ?_
    simp [k8']
    exact hK _ _ ((hx0.trans hx1).set h8 _) rfl rfl (by rw [Hp.get_set, if_pos rfl]; try rfl)
theorem r11_34 {Q : AExit → St → Prop} {K : List KI} {h0 : Hp} {n b4 b8 b11 b12 b13 : Nat} {base : Int} {a b t : Nat → Int} {e : Env} {H : Hp} (hn : 1 ≤ n ∧ n ≤ 4) (ha : VI a) (hb : VI b) (ht : VI t)
    (h8 : h0.next ≤ b8) (l4 : b4 < H.next) (l8 : b8 < H.next) (l11 : b11 < H.next) (l12 : b12 < H.next) (l13 : b13 < H.next) (hx0 : Ext h0 H)
    (g1 : e.get 1 = i64 base) (g2 : e.get 2 = i64 (n : Int)) (g4 : e.get 4 = .c (.ptr b4 0)) (g8 : e.get 8 = .c (.ptr b8 0)) (g11 : e.get 11 = .c (.ptr b11 0)) (g12 : e.get 12 = .c (.ptr b12 0)) (g13 : e.get 13 = .c (.ptr b13 0))
    (k4 : H.get b4 = some (.cells [.int .i64 34] true)) (k8 : H.get b8 = some (vb fun _ => 0)) (k11 : H.get b11 = some (vb a)) (k12 : H.get b12 = some (vb b)) (k13 : H.get b13 = some (vb t))
    (hK : ∀ (e' : Env) (H' : Hp), Ext h0 H' → e'.get 8 = .c (.ptr b8 0) → e'.get 9 = i64 0 → H'.get b8 = some (vb (onlyS (bitS (!sameS a b n)))) → wpK T Q K .ret ⟨e', H', [], none⟩) :
    wpK T Q (.code R11 :: K) .normal ⟨e, H, [], none⟩ := by
  simp [R11, g1, g2, g4, g8, g11, g12, g13, k4, k8, k11, k12, k13]
  refine k_call ?_; simp
  refine c24 n a b hn.2 _ _ fun h1 hx1 => ?_
  have k8' := (hx1.2 b8 l8).trans k8
  obtain ⟨s, hS⟩ : ∃ s, sameS a b n = s := ⟨_, rfl⟩
  rw [hS] at hK
  rw [hS]
  cases s
  all_goals
    simp [bitS] at hK
    try simp
    refine k_call ?_; simp
    refine c23 _ _ _ ?_
    simp [k8']
    exact hK _ _ ((hx0.trans hx1).set h8 _) rfl rfl (by rw [Hp.get_set, if_pos rfl]; try rfl)
theorem r11_11 {Q : AExit → St → Prop} {K : List KI} {h0 : Hp} {n b4 b8 b11 b12 b13 : Nat} {base : Int} {a b t : Nat → Int} {e : Env} {H : Hp} (hn : 1 ≤ n ∧ n ≤ 4) (h2 : ¬ base = 2) (ha : VI a) (hb : VI b) (ht : VI t)
    (h8 : h0.next ≤ b8) (l4 : b4 < H.next) (l8 : b8 < H.next) (l11 : b11 < H.next) (l12 : b12 < H.next) (l13 : b13 < H.next) (hx0 : Ext h0 H)
    (g1 : e.get 1 = i64 base) (g2 : e.get 2 = i64 (n : Int)) (g4 : e.get 4 = .c (.ptr b4 0)) (g8 : e.get 8 = .c (.ptr b8 0)) (g11 : e.get 11 = .c (.ptr b11 0)) (g12 : e.get 12 = .c (.ptr b12 0)) (g13 : e.get 13 = .c (.ptr b13 0))
    (k4 : H.get b4 = some (.cells [.int .i64 11] true)) (k8 : H.get b8 = some (vb fun _ => 0)) (k11 : H.get b11 = some (vb a)) (k12 : H.get b12 = some (vb b)) (k13 : H.get b13 = some (vb t))
    (hK : ∀ (e' : Env) (H' : Hp), Ext h0 H' → e'.get 8 = .c (.ptr b8 0) → e'.get 9 = i64 0 → H'.get b8 = some (vb (normS a n)) → wpK T Q K .ret ⟨e', H', [], none⟩) :
    wpK T Q (.code R11 :: K) .normal ⟨e, H, [], none⟩ := by
  obtain ⟨R, hR⟩ : ∃ R, normS a n = R := ⟨_, rfl⟩
  rw [hR] at hK
  simp [R11, g1, g2, g4, g8, g11, g12, g13, k4, k8, k11, k12, k13, h2]
  refine k_call ?_; simp
  refine c36 a n hn ha _ _ fun h1 hx1 => ?_
  rw [hR]
  have k8' := (hx1.2 b8 l8).trans k8
  simp [k8']
  exact hK _ _ ((hx0.trans hx1).set h8 _) rfl rfl (by rw [Hp.get_set, if_pos rfl])
theorem r11_17 {Q : AExit → St → Prop} {K : List KI} {h0 : Hp} {n b4 b8 b11 b12 b13 : Nat} {base : Int} {a b t : Nat → Int} {e : Env} {H : Hp} (hn : 1 ≤ n ∧ n ≤ 4) (h2 : ¬ base = 2) (ha : VI a) (hb : VI b) (ht : VI t)
    (h8 : h0.next ≤ b8) (l4 : b4 < H.next) (l8 : b8 < H.next) (l11 : b11 < H.next) (l12 : b12 < H.next) (l13 : b13 < H.next) (hx0 : Ext h0 H)
    (g1 : e.get 1 = i64 base) (g2 : e.get 2 = i64 (n : Int)) (g4 : e.get 4 = .c (.ptr b4 0)) (g8 : e.get 8 = .c (.ptr b8 0)) (g11 : e.get 11 = .c (.ptr b11 0)) (g12 : e.get 12 = .c (.ptr b12 0)) (g13 : e.get 13 = .c (.ptr b13 0))
    (k4 : H.get b4 = some (.cells [.int .i64 17] true)) (k8 : H.get b8 = some (vb fun _ => 0)) (k11 : H.get b11 = some (vb a)) (k12 : H.get b12 = some (vb b)) (k13 : H.get b13 = some (vb t))
    (hK : ∀ (e' : Env) (H' : Hp), Ext h0 H' → e'.get 8 = .c (.ptr b8 0) → e'.get 9 = i64 0 → H'.get b8 = some (vb ((upto n fun i => mixS (a i) (b i) (t i)))) → wpK T Q K .ret ⟨e', H', [], none⟩) :
    wpK T Q (.code R11 :: K) .normal ⟨e, H, [], none⟩ := by
  obtain ⟨R, hR⟩ : ∃ R, (upto n fun i => mixS (a i) (b i) (t i)) = R := ⟨_, rfl⟩
  rw [hR] at hK
  simp [R11, g1, g2, g4, g8, g11, g12, g13, k4, k8, k11, k12, k13, h2]
  refine k_call ?_; simp
  refine c32 _ _ n a b t hn ha hb ht fun h1 hx1 => ?_
  rw [hR]
  have k8' := (hx1.2 b8 l8).trans k8
  simp [k8']
  exact hK _ _ ((hx0.trans hx1).set h8 _) rfl rfl (by rw [Hp.get_set, if_pos rfl])
theorem r11_18 {Q : AExit → St → Prop} {K : List KI} {h0 : Hp} {n b4 b8 b11 b12 b13 : Nat} {base : Int} {a b t : Nat → Int} {e : Env} {H : Hp} (hn : 1 ≤ n ∧ n ≤ 4) (h2 : ¬ base = 2) (ha : VI a) (hb : VI b) (ht : VI t)
    (h8 : h0.next ≤ b8) (l4 : b4 < H.next) (l8 : b8 < H.next) (l11 : b11 < H.next) (l12 : b12 < H.next) (l13 : b13 < H.next) (hx0 : Ext h0 H)
    (g1 : e.get 1 = i64 base) (g2 : e.get 2 = i64 (n : Int)) (g4 : e.get 4 = .c (.ptr b4 0)) (g8 : e.get 8 = .c (.ptr b8 0)) (g11 : e.get 11 = .c (.ptr b11 0)) (g12 : e.get 12 = .c (.ptr b12 0)) (g13 : e.get 13 = .c (.ptr b13 0))
    (k4 : H.get b4 = some (.cells [.int .i64 18] true)) (k8 : H.get b8 = some (vb fun _ => 0)) (k11 : H.get b11 = some (vb a)) (k12 : H.get b12 = some (vb b)) (k13 : H.get b13 = some (vb t))
    (hK : ∀ (e' : Env) (H' : Hp), Ext h0 H' → e'.get 8 = .c (.ptr b8 0) → e'.get 9 = i64 0 → H'.get b8 = some (vb ((upto n fun i => clampS (a i) (b i) (t i)))) → wpK T Q K .ret ⟨e', H', [], none⟩) :
    wpK T Q (.code R11 :: K) .normal ⟨e, H, [], none⟩ := by
  obtain ⟨R, hR⟩ : ∃ R, (upto n fun i => clampS (a i) (b i) (t i)) = R := ⟨_, rfl⟩
  rw [hR] at hK
  simp [R11, g1, g2, g4, g8, g11, g12, g13, k4, k8, k11, k12, k13, h2]
  refine k_call ?_; simp
  refine c33 _ _ n a b t hn fun h1 hx1 => ?_
  rw [hR]
  have k8' := (hx1.2 b8 l8).trans k8
  simp [k8']
  exact hK _ _ ((hx0.trans hx1).set h8 _) rfl rfl (by rw [Hp.get_set, if_pos rfl])
theorem r11_19 {Q : AExit → St → Prop} {K : List KI} {h0 : Hp} {n b4 b8 b11 b12 b13 : Nat} {base : Int} {a b t : Nat → Int} {e : Env} {H : Hp} (hn : 1 ≤ n ∧ n ≤ 4) (h2 : ¬ base = 2) (ha : VI a) (hb : VI b) (ht : VI t)
    (h8 : h0.next ≤ b8) (l4 : b4 < H.next) (l8 : b8 < H.next) (l11 : b11 < H.next) (l12 : b12 < H.next) (l13 : b13 < H.next) (hx0 : Ext h0 H)
    (g1 : e.get 1 = i64 base) (g2 : e.get 2 = i64 (n : Int)) (g4 : e.get 4 = .c (.ptr b4 0)) (g8 : e.get 8 = .c (.ptr b8 0)) (g11 : e.get 11 = .c (.ptr b11 0)) (g12 : e.get 12 = .c (.ptr b12 0)) (g13 : e.get 13 = .c (.ptr b13 0))
    (k4 : H.get b4 = some (.cells [.int .i64 19] true)) (k8 : H.get b8 = some (vb fun _ => 0)) (k11 : H.get b11 = some (vb a)) (k12 : H.get b12 = some (vb b)) (k13 : H.get b13 = some (vb t))
    (hK : ∀ (e' : Env) (H' : Hp), Ext h0 H' → e'.get 8 = .c (.ptr b8 0) → e'.get 9 = i64 0 → H'.get b8 = some (vb (onlyS (dotI a b (n - 1)))) → wpK T Q K .ret ⟨e', H', [], none⟩) :
    wpK T Q (.code R11 :: K) .normal ⟨e, H, [], none⟩ := by
  obtain ⟨R, hR⟩ : ∃ R, dotI a b (n - 1) = R := ⟨_, rfl⟩
  rw [hR] at hK
  simp [R11, g1, g2, g4, g8, g11, g12, g13, k4, k8, k11, k12, k13, h2]
  refine k_call ?_; simp
  refine c34 n a b hn ha hb _ _ fun h1 hx1 => ?_
  rw [hR]
  have k8' := (hx1.2 b8 l8).trans k8
  simp [k8']
  exact hK _ _ ((hx0.trans hx1).set h8 _) rfl rfl (by rw [Hp.get_set, if_pos rfl]; try rfl)
theorem r11_20 {Q : AExit → St → Prop} {K : List KI} {h0 : Hp} {n b4 b8 b11 b12 b13 : Nat} {base : Int} {a b t : Nat → Int} {e : Env} {H : Hp} (hn : 1 ≤ n ∧ n ≤ 4) (h2 : ¬ base = 2) (ha : VI a) (hb : VI b) (ht : VI t)
    (h8 : h0.next ≤ b8) (l4 : b4 < H.next) (l8 : b8 < H.next) (l11 : b11 < H.next) (l12 : b12 < H.next) (l13 : b13 < H.next) (hx0 : Ext h0 H)
    (g1 : e.get 1 = i64 base) (g2 : e.get 2 = i64 (n : Int)) (g4 : e.get 4 = .c (.ptr b4 0)) (g8 : e.get 8 = .c (.ptr b8 0)) (g11 : e.get 11 = .c (.ptr b11 0)) (g12 : e.get 12 = .c (.ptr b12 0)) (g13 : e.get 13 = .c (.ptr b13 0))
    (k4 : H.get b4 = some (.cells [.int .i64 20] true)) (k8 : H.get b8 = some (vb fun _ => 0)) (k11 : H.get b11 = some (vb a)) (k12 : H.get b12 = some (vb b)) (k13 : H.get b13 = some (vb t))
    (hK : ∀ (e' : Env) (H' : Hp), Ext h0 H' → e'.get 8 = .c (.ptr b8 0) → e'.get 9 = i64 0 → H'.get b8 = some (vb (onlyS (lenS a n))) → wpK T Q K .ret ⟨e', H', [], none⟩) :
    wpK T Q (.code R11 :: K) .normal ⟨e, H, [], none⟩ := by
  obtain ⟨R, hR⟩ : ∃ R, lenS a n = R := ⟨_, rfl⟩
  rw [hR] at hK
  simp [R11, g1, g2, g4, g8, g11, g12, g13, k4, k8, k11, k12, k13, h2]
  refine k_call ?_; simp
  refine c37 a n hn ha _ _ fun h1 hx1 => ?_
  rw [hR]
  have k8' := (hx1.2 b8 l8).trans k8
  simp [k8']
  exact hK _ _ ((hx0.trans hx1).set h8 _) rfl rfl (by rw [Hp.get_set, if_pos rfl]; try rfl)
theorem r11_21 {Q : AExit → St → Prop} {K : List KI} {h0 : Hp} {n b4 b8 b11 b12 b13 : Nat} {base : Int} {a b t : Nat → Int} {e : Env} {H : Hp} (hn : 1 ≤ n ∧ n ≤ 4) (h2 : ¬ base = 2) (ha : VI a) (hb : VI b) (ht : VI t)
    (h8 : h0.next ≤ b8) (l4 : b4 < H.next) (l8 : b8 < H.next) (l11 : b11 < H.next) (l12 : b12 < H.next) (l13 : b13 < H.next) (hx0 : Ext h0 H)
    (g1 : e.get 1 = i64 base) (g2 : e.get 2 = i64 (n : Int)) (g4 : e.get 4 = .c (.ptr b4 0)) (g8 : e.get 8 = .c (.ptr b8 0)) (g11 : e.get 11 = .c (.ptr b11 0)) (g12 : e.get 12 = .c (.ptr b12 0)) (g13 : e.get 13 = .c (.ptr b13 0))
    (k4 : H.get b4 = some (.cells [.int .i64 21] true)) (k8 : H.get b8 = some (vb fun _ => 0)) (k11 : H.get b11 = some (vb a)) (k12 : H.get b12 = some (vb b)) (k13 : H.get b13 = some (vb t))
    (hK : ∀ (e' : Env) (H' : Hp), Ext h0 H' → e'.get 8 = .c (.ptr b8 0) → e'.get 9 = i64 0 → H'.get b8 = some (vb (upto 3 (crossS a b))) → wpK T Q K .ret ⟨e', H', [], none⟩) :
    wpK T Q (.code R11 :: K) .normal ⟨e, H, [], none⟩ := by
  obtain ⟨R, hR⟩ : ∃ R, upto 3 (crossS a b) = R := ⟨_, rfl⟩
  rw [hR] at hK
  simp [R11, g1, g2, g4, g8, g11, g12, g13, k4, k8, k11, k12, k13, h2]
  refine k_call ?_; simp
  refine c35 _ _ a b ha hb fun h1 hx1 => ?_
  rw [hR]
  have k8' := (hx1.2 b8 l8).trans k8
  simp [k8']
  exact hK _ _ ((hx0.trans hx1).set h8 _) rfl rfl (by rw [Hp.get_set, if_pos rfl])
theorem r11_24 {Q : AExit → St → Prop} {K : List KI} {h0 : Hp} {n b4 b8 b11 b12 b13 : Nat} {base : Int} {a b t : Nat → Int} {e : Env} {H : Hp} (hn : 1 ≤ n ∧ n ≤ 4) (h2 : ¬ base = 2) (ha : VI a) (hb : VI b) (ht : VI t)
    (h8 : h0.next ≤ b8) (l4 : b4 < H.next) (l8 : b8 < H.next) (l11 : b11 < H.next) (l12 : b12 < H.next) (l13 : b13 < H.next) (hx0 : Ext h0 H)
    (g1 : e.get 1 = i64 base) (g2 : e.get 2 = i64 (n : Int)) (g4 : e.get 4 = .c (.ptr b4 0)) (g8 : e.get 8 = .c (.ptr b8 0)) (g11 : e.get 11 = .c (.ptr b11 0)) (g12 : e.get 12 = .c (.ptr b12 0)) (g13 : e.get 13 = .c (.ptr b13 0))
    (k4 : H.get b4 = some (.cells [.int .i64 24] true)) (k8 : H.get b8 = some (vb fun _ => 0)) (k11 : H.get b11 = some (vb a)) (k12 : H.get b12 = some (vb b)) (k13 : H.get b13 = some (vb t))
    (hK : ∀ (e' : Env) (H' : Hp), Ext h0 H' → e'.get 8 = .c (.ptr b8 0) → e'.get 9 = i64 0 → H'.get b8 = some (vb (upto n fun i => elS 24 base (a i) (b i))) → wpK T Q K .ret ⟨e', H', [], none⟩) :
    wpK T Q (.code R11 :: K) .normal ⟨e, H, [], none⟩ := by
  have hE : (upto n fun i => elS 24 base (a i) (b i)) = upto n fun i => twoS 0 (a i) (b i) := by congr 1; funext i; simp [elS, h2, sglS]
  rw [hE] at hK
  obtain ⟨R, hR⟩ : ∃ R, (upto n fun i => twoS 0 (a i) (b i)) = R := ⟨_, rfl⟩
  rw [hR] at hK
  simp [R11, g1, g2, g4, g8, g11, g12, g13, k4, k8, k11, k12, k13, h2]
  refine k_call ?_; simp
  refine c28 _ _ 0 n a b (by omega) hn ha hb fun h1 hx1 => ?_
  rw [hR]
  have k8' := (hx1.2 b8 l8).trans k8
  simp [k8']
  exact hK _ _ ((hx0.trans hx1).set h8 _) rfl rfl (by rw [Hp.get_set, if_pos rfl])
theorem r11_25 {Q : AExit → St → Prop} {K : List KI} {h0 : Hp} {n b4 b8 b11 b12 b13 : Nat} {base : Int} {a b t : Nat → Int} {e : Env} {H : Hp} (hn : 1 ≤ n ∧ n ≤ 4) (h2 : ¬ base = 2) (ha : VI a) (hb : VI b) (ht : VI t)
    (h8 : h0.next ≤ b8) (l4 : b4 < H.next) (l8 : b8 < H.next) (l11 : b11 < H.next) (l12 : b12 < H.next) (l13 : b13 < H.next) (hx0 : Ext h0 H)
    (g1 : e.get 1 = i64 base) (g2 : e.get 2 = i64 (n : Int)) (g4 : e.get 4 = .c (.ptr b4 0)) (g8 : e.get 8 = .c (.ptr b8 0)) (g11 : e.get 11 = .c (.ptr b11 0)) (g12 : e.get 12 = .c (.ptr b12 0)) (g13 : e.get 13 = .c (.ptr b13 0))
    (k4 : H.get b4 = some (.cells [.int .i64 25] true)) (k8 : H.get b8 = some (vb fun _ => 0)) (k11 : H.get b11 = some (vb a)) (k12 : H.get b12 = some (vb b)) (k13 : H.get b13 = some (vb t))
    (hK : ∀ (e' : Env) (H' : Hp), Ext h0 H' → e'.get 8 = .c (.ptr b8 0) → e'.get 9 = i64 0 → H'.get b8 = some (vb (upto n fun i => elS 25 base (a i) (b i))) → wpK T Q K .ret ⟨e', H', [], none⟩) :
    wpK T Q (.code R11 :: K) .normal ⟨e, H, [], none⟩ := by
  have hE : (upto n fun i => elS 25 base (a i) (b i)) = upto n fun i => twoS 1 (a i) (b i) := by congr 1; funext i; simp [elS, h2, sglS]
  rw [hE] at hK
  obtain ⟨R, hR⟩ : ∃ R, (upto n fun i => twoS 1 (a i) (b i)) = R := ⟨_, rfl⟩
  rw [hR] at hK
  simp [R11, g1, g2, g4, g8, g11, g12, g13, k4, k8, k11, k12, k13, h2]
  refine k_call ?_; simp
  refine c28 _ _ 1 n a b (by omega) hn ha hb fun h1 hx1 => ?_
  rw [hR]
  have k8' := (hx1.2 b8 l8).trans k8
  simp [k8']
  exact hK _ _ ((hx0.trans hx1).set h8 _) rfl rfl (by rw [Hp.get_set, if_pos rfl])
theorem r11_26 {Q : AExit → St → Prop} {K : List KI} {h0 : Hp} {n b4 b8 b11 b12 b13 : Nat} {base : Int} {a b t : Nat → Int} {e : Env} {H : Hp} (hn : 1 ≤ n ∧ n ≤ 4) (h2 : ¬ base = 2) (ha : VI a) (hb : VI b) (ht : VI t)
    (h8 : h0.next ≤ b8) (l4 : b4 < H.next) (l8 : b8 < H.next) (l11 : b11 < H.next) (l12 : b12 < H.next) (l13 : b13 < H.next) (hx0 : Ext h0 H)
    (g1 : e.get 1 = i64 base) (g2 : e.get 2 = i64 (n : Int)) (g4 : e.get 4 = .c (.ptr b4 0)) (g8 : e.get 8 = .c (.ptr b8 0)) (g11 : e.get 11 = .c (.ptr b11 0)) (g12 : e.get 12 = .c (.ptr b12 0)) (g13 : e.get 13 = .c (.ptr b13 0))
    (k4 : H.get b4 = some (.cells [.int .i64 26] true)) (k8 : H.get b8 = some (vb fun _ => 0)) (k11 : H.get b11 = some (vb a)) (k12 : H.get b12 = some (vb b)) (k13 : H.get b13 = some (vb t))
    (hK : ∀ (e' : Env) (H' : Hp), Ext h0 H' → e'.get 8 = .c (.ptr b8 0) → e'.get 9 = i64 0 → H'.get b8 = some (vb (upto n fun i => elS 26 base (a i) (b i))) → wpK T Q K .ret ⟨e', H', [], none⟩) :
    wpK T Q (.code R11 :: K) .normal ⟨e, H, [], none⟩ := by
  have hE : (upto n fun i => elS 26 base (a i) (b i)) = upto n fun i => twoS 2 (a i) (b i) := by congr 1; funext i; simp [elS, h2, sglS]
  rw [hE] at hK
  obtain ⟨R, hR⟩ : ∃ R, (upto n fun i => twoS 2 (a i) (b i)) = R := ⟨_, rfl⟩
  rw [hR] at hK
  simp [R11, g1, g2, g4, g8, g11, g12, g13, k4, k8, k11, k12, k13, h2]
  refine k_call ?_; simp
  refine c28 _ _ 2 n a b (by omega) hn ha hb fun h1 hx1 => ?_
  rw [hR]
  have k8' := (hx1.2 b8 l8).trans k8
  simp [k8']
  exact hK _ _ ((hx0.trans hx1).set h8 _) rfl rfl (by rw [Hp.get_set, if_pos rfl])
theorem r11_27 {Q : AExit → St → Prop} {K : List KI} {h0 : Hp} {n b4 b8 b11 b12 b13 : Nat} {base : Int} {a b t : Nat → Int} {e : Env} {H : Hp} (hn : 1 ≤ n ∧ n ≤ 4) (h2 : ¬ base = 2) (ha : VI a) (hb : VI b) (ht : VI t)
    (h8 : h0.next ≤ b8) (l4 : b4 < H.next) (l8 : b8 < H.next) (l11 : b11 < H.next) (l12 : b12 < H.next) (l13 : b13 < H.next) (hx0 : Ext h0 H)
    (g1 : e.get 1 = i64 base) (g2 : e.get 2 = i64 (n : Int)) (g4 : e.get 4 = .c (.ptr b4 0)) (g8 : e.get 8 = .c (.ptr b8 0)) (g11 : e.get 11 = .c (.ptr b11 0)) (g12 : e.get 12 = .c (.ptr b12 0)) (g13 : e.get 13 = .c (.ptr b13 0))
    (k4 : H.get b4 = some (.cells [.int .i64 27] true)) (k8 : H.get b8 = some (vb fun _ => 0)) (k11 : H.get b11 = some (vb a)) (k12 : H.get b12 = some (vb b)) (k13 : H.get b13 = some (vb t))
    (hK : ∀ (e' : Env) (H' : Hp), Ext h0 H' → e'.get 8 = .c (.ptr b8 0) → e'.get 9 = i64 0 → H'.get b8 = some (vb (upto n fun i => elS 27 base (a i) (b i))) → wpK T Q K .ret ⟨e', H', [], none⟩) :
    wpK T Q (.code R11 :: K) .normal ⟨e, H, [], none⟩ := by
  have hE : (upto n fun i => elS 27 base (a i) (b i)) = upto n fun i => twoS 3 (a i) (b i) := by congr 1; funext i; simp [elS, h2, sglS]
  rw [hE] at hK
  obtain ⟨R, hR⟩ : ∃ R, (upto n fun i => twoS 3 (a i) (b i)) = R := ⟨_, rfl⟩
  rw [hR] at hK
  simp [R11, g1, g2, g4, g8, g11, g12, g13, k4, k8, k11, k12, k13, h2]
  refine k_call ?_; simp
  refine c28 _ _ 3 n a b (by omega) hn ha hb fun h1 hx1 => ?_
  rw [hR]
  have k8' := (hx1.2 b8 l8).trans k8
  simp [k8']
  exact hK _ _ ((hx0.trans hx1).set h8 _) rfl rfl (by rw [Hp.get_set, if_pos rfl])
theorem r11_12 {Q : AExit → St → Prop} {K : List KI} {h0 : Hp} {n b4 b8 b11 b12 b13 : Nat} {base : Int} {a b t : Nat → Int} {e : Env} {H : Hp} (hn : 1 ≤ n ∧ n ≤ 4) (h2 : ¬ base = 2) (ha : VI a) (hb : VI b) (ht : VI t)
    (h8 : h0.next ≤ b8) (l4 : b4 < H.next) (l8 : b8 < H.next) (l11 : b11 < H.next) (l12 : b12 < H.next) (l13 : b13 < H.next) (hx0 : Ext h0 H)
    (g1 : e.get 1 = i64 base) (g2 : e.get 2 = i64 (n : Int)) (g4 : e.get 4 = .c (.ptr b4 0)) (g8 : e.get 8 = .c (.ptr b8 0)) (g11 : e.get 11 = .c (.ptr b11 0)) (g12 : e.get 12 = .c (.ptr b12 0)) (g13 : e.get 13 = .c (.ptr b13 0))
    (k4 : H.get b4 = some (.cells [.int .i64 12] true)) (k8 : H.get b8 = some (vb fun _ => 0)) (k11 : H.get b11 = some (vb a)) (k12 : H.get b12 = some (vb b)) (k13 : H.get b13 = some (vb t))
    (hK : ∀ (e' : Env) (H' : Hp), Ext h0 H' → e'.get 8 = .c (.ptr b8 0) → e'.get 9 = i64 0 → H'.get b8 = some (vb (upto n fun i => elS 12 base (a i) (b i))) → wpK T Q K .ret ⟨e', H', [], none⟩) :
    wpK T Q (.code R11 :: K) .normal ⟨e, H, [], none⟩ := by
  have hE : (upto n fun i => elS 12 base (a i) (b i)) = upto n fun i => twoS 4 (a i) (b i) := by congr 1; funext i; simp [elS, h2, sglS]
  rw [hE] at hK
  obtain ⟨R, hR⟩ : ∃ R, (upto n fun i => twoS 4 (a i) (b i)) = R := ⟨_, rfl⟩
  rw [hR] at hK
  simp [R11, g1, g2, g4, g8, g11, g12, g13, k4, k8, k11, k12, k13, h2]
  refine k_call ?_; simp
  refine c28 _ _ 4 n a b (by omega) hn ha hb fun h1 hx1 => ?_
  rw [hR]
  have k8' := (hx1.2 b8 l8).trans k8
  simp [k8']
  exact hK _ _ ((hx0.trans hx1).set h8 _) rfl rfl (by rw [Hp.get_set, if_pos rfl])
theorem r11_13 {Q : AExit → St → Prop} {K : List KI} {h0 : Hp} {n b4 b8 b11 b12 b13 : Nat} {base : Int} {a b t : Nat → Int} {e : Env} {H : Hp} (hn : 1 ≤ n ∧ n ≤ 4) (h2 : ¬ base = 2) (ha : VI a) (hb : VI b) (ht : VI t)
    (h8 : h0.next ≤ b8) (l4 : b4 < H.next) (l8 : b8 < H.next) (l11 : b11 < H.next) (l12 : b12 < H.next) (l13 : b13 < H.next) (hx0 : Ext h0 H)
    (g1 : e.get 1 = i64 base) (g2 : e.get 2 = i64 (n : Int)) (g4 : e.get 4 = .c (.ptr b4 0)) (g8 : e.get 8 = .c (.ptr b8 0)) (g11 : e.get 11 = .c (.ptr b11 0)) (g12 : e.get 12 = .c (.ptr b12 0)) (g13 : e.get 13 = .c (.ptr b13 0))
    (k4 : H.get b4 = some (.cells [.int .i64 13] true)) (k8 : H.get b8 = some (vb fun _ => 0)) (k11 : H.get b11 = some (vb a)) (k12 : H.get b12 = some (vb b)) (k13 : H.get b13 = some (vb t))
    (hK : ∀ (e' : Env) (H' : Hp), Ext h0 H' → e'.get 8 = .c (.ptr b8 0) → e'.get 9 = i64 0 → H'.get b8 = some (vb (upto n fun i => elS 13 base (a i) (b i))) → wpK T Q K .ret ⟨e', H', [], none⟩) :
    wpK T Q (.code R11 :: K) .normal ⟨e, H, [], none⟩ := by
  have hE : (upto n fun i => elS 13 base (a i) (b i)) = upto n fun i => twoS 5 (a i) (b i) := by congr 1; funext i; simp [elS, h2, sglS]
  rw [hE] at hK
  obtain ⟨R, hR⟩ : ∃ R, (upto n fun i => twoS 5 (a i) (b i)) = R := ⟨_, rfl⟩
  rw [hR] at hK
  simp [R11, g1, g2, g4, g8, g11, g12, g13, k4, k8, k11, k12, k13, h2]
  refine k_call ?_; simp
  refine c28 _ _ 5 n a b (by omega) hn ha hb fun h1 hx1 => ?_
  rw [hR]
  have k8' := (hx1.2 b8 l8).trans k8
  simp [k8']
  exact hK _ _ ((hx0.trans hx1).set h8 _) rfl rfl (by rw [Hp.get_set, if_pos rfl])
theorem r11_14 {Q : AExit → St → Prop} {K : List KI} {h0 : Hp} {n b4 b8 b11 b12 b13 : Nat} {base : Int} {a b t : Nat → Int} {e : Env} {H : Hp} (hn : 1 ≤ n ∧ n ≤ 4) (h2 : ¬ base = 2) (ha : VI a) (hb : VI b) (ht : VI t)
    (h8 : h0.next ≤ b8) (l4 : b4 < H.next) (l8 : b8 < H.next) (l11 : b11 < H.next) (l12 : b12 < H.next) (l13 : b13 < H.next) (hx0 : Ext h0 H)
    (g1 : e.get 1 = i64 base) (g2 : e.get 2 = i64 (n : Int)) (g4 : e.get 4 = .c (.ptr b4 0)) (g8 : e.get 8 = .c (.ptr b8 0)) (g11 : e.get 11 = .c (.ptr b11 0)) (g12 : e.get 12 = .c (.ptr b12 0)) (g13 : e.get 13 = .c (.ptr b13 0))
    (k4 : H.get b4 = some (.cells [.int .i64 14] true)) (k8 : H.get b8 = some (vb fun _ => 0)) (k11 : H.get b11 = some (vb a)) (k12 : H.get b12 = some (vb b)) (k13 : H.get b13 = some (vb t))
    (hK : ∀ (e' : Env) (H' : Hp), Ext h0 H' → e'.get 8 = .c (.ptr b8 0) → e'.get 9 = i64 0 → H'.get b8 = some (vb (upto n fun i => elS 14 base (a i) (b i))) → wpK T Q K .ret ⟨e', H', [], none⟩) :
    wpK T Q (.code R11 :: K) .normal ⟨e, H, [], none⟩ := by
  have hE : (upto n fun i => elS 14 base (a i) (b i)) = upto n fun i => twoS 6 (a i) (b i) := by congr 1; funext i; simp [elS, h2, sglS]
  rw [hE] at hK
  obtain ⟨R, hR⟩ : ∃ R, (upto n fun i => twoS 6 (a i) (b i)) = R := ⟨_, rfl⟩
  rw [hR] at hK
  simp [R11, g1, g2, g4, g8, g11, g12, g13, k4, k8, k11, k12, k13, h2]
  refine k_call ?_; simp
  refine c28 _ _ 6 n a b (by omega) hn ha hb fun h1 hx1 => ?_
  rw [hR]
  have k8' := (hx1.2 b8 l8).trans k8
  simp [k8']
  exact hK _ _ ((hx0.trans hx1).set h8 _) rfl rfl (by rw [Hp.get_set, if_pos rfl])
theorem r11_16 {Q : AExit → St → Prop} {K : List KI} {h0 : Hp} {n b4 b8 b11 b12 b13 : Nat} {base : Int} {a b t : Nat → Int} {e : Env} {H : Hp} (hn : 1 ≤ n ∧ n ≤ 4) (h2 : ¬ base = 2) (ha : VI a) (hb : VI b) (ht : VI t)
    (h8 : h0.next ≤ b8) (l4 : b4 < H.next) (l8 : b8 < H.next) (l11 : b11 < H.next) (l12 : b12 < H.next) (l13 : b13 < H.next) (hx0 : Ext h0 H)
    (g1 : e.get 1 = i64 base) (g2 : e.get 2 = i64 (n : Int)) (g4 : e.get 4 = .c (.ptr b4 0)) (g8 : e.get 8 = .c (.ptr b8 0)) (g11 : e.get 11 = .c (.ptr b11 0)) (g12 : e.get 12 = .c (.ptr b12 0)) (g13 : e.get 13 = .c (.ptr b13 0))
    (k4 : H.get b4 = some (.cells [.int .i64 16] true)) (k8 : H.get b8 = some (vb fun _ => 0)) (k11 : H.get b11 = some (vb a)) (k12 : H.get b12 = some (vb b)) (k13 : H.get b13 = some (vb t))
    (hK : ∀ (e' : Env) (H' : Hp), Ext h0 H' → e'.get 8 = .c (.ptr b8 0) → e'.get 9 = i64 0 → H'.get b8 = some (vb (upto n fun i => elS 16 base (a i) (b i))) → wpK T Q K .ret ⟨e', H', [], none⟩) :
    wpK T Q (.code R11 :: K) .normal ⟨e, H, [], none⟩ := by
  have hE : (upto n fun i => elS 16 base (a i) (b i)) = upto n fun i => twoS 7 (a i) (b i) := by congr 1; funext i; simp [elS, h2, sglS]
  rw [hE] at hK
  obtain ⟨R, hR⟩ : ∃ R, (upto n fun i => twoS 7 (a i) (b i)) = R := ⟨_, rfl⟩
  rw [hR] at hK
  simp [R11, g1, g2, g4, g8, g11, g12, g13, k4, k8, k11, k12, k13, h2]
  refine k_call ?_; simp
  refine c28 _ _ 7 n a b (by omega) hn ha hb fun h1 hx1 => ?_
  rw [hR]
  have k8' := (hx1.2 b8 l8).trans k8
  simp [k8']
  exact hK _ _ ((hx0.trans hx1).set h8 _) rfl rfl (by rw [Hp.get_set, if_pos rfl])
theorem r11_28 {Q : AExit → St → Prop} {K : List KI} {h0 : Hp} {n b4 b8 b11 b12 b13 : Nat} {base : Int} {a b t : Nat → Int} {e : Env} {H : Hp} (hn : 1 ≤ n ∧ n ≤ 4) (h2 : ¬ base = 2) (ha : VI a) (hb : VI b) (ht : VI t)
    (h8 : h0.next ≤ b8) (l4 : b4 < H.next) (l8 : b8 < H.next) (l11 : b11 < H.next) (l12 : b12 < H.next) (l13 : b13 < H.next) (hx0 : Ext h0 H)
    (g1 : e.get 1 = i64 base) (g2 : e.get 2 = i64 (n : Int)) (g4 : e.get 4 = .c (.ptr b4 0)) (g8 : e.get 8 = .c (.ptr b8 0)) (g11 : e.get 11 = .c (.ptr b11 0)) (g12 : e.get 12 = .c (.ptr b12 0)) (g13 : e.get 13 = .c (.ptr b13 0))
    (k4 : H.get b4 = some (.cells [.int .i64 28] true)) (k8 : H.get b8 = some (vb fun _ => 0)) (k11 : H.get b11 = some (vb a)) (k12 : H.get b12 = some (vb b)) (k13 : H.get b13 = some (vb t))
    (hK : ∀ (e' : Env) (H' : Hp), Ext h0 H' → e'.get 8 = .c (.ptr b8 0) → e'.get 9 = i64 0 → H'.get b8 = some (vb (upto n fun i => elS 28 base (a i) (b i))) → wpK T Q K .ret ⟨e', H', [], none⟩) :
    wpK T Q (.code R11 :: K) .normal ⟨e, H, [], none⟩ := by
  have hE : (upto n fun i => elS 28 base (a i) (b i)) = upto n fun i => oneS 0 (a i) := by congr 1; funext i; simp [elS, h2, sglS]
  rw [hE] at hK
  obtain ⟨R, hR⟩ : ∃ R, (upto n fun i => oneS 0 (a i)) = R := ⟨_, rfl⟩
  rw [hR] at hK
  simp [R11, g1, g2, g4, g8, g11, g12, g13, k4, k8, k11, k12, k13, h2]
  refine k_call ?_; simp
  refine c29 _ _ 0 n a (by omega) hn ha fun h1 hx1 => ?_
  rw [hR]
  have k8' := (hx1.2 b8 l8).trans k8
  simp [k8']
  exact hK _ _ ((hx0.trans hx1).set h8 _) rfl rfl (by rw [Hp.get_set, if_pos rfl])
theorem r11_1 {Q : AExit → St → Prop} {K : List KI} {h0 : Hp} {n b4 b8 b11 b12 b13 : Nat} {base : Int} {a b t : Nat → Int} {e : Env} {H : Hp} (hn : 1 ≤ n ∧ n ≤ 4) (h2 : ¬ base = 2) (ha : VI a) (hb : VI b) (ht : VI t)
    (h8 : h0.next ≤ b8) (l4 : b4 < H.next) (l8 : b8 < H.next) (l11 : b11 < H.next) (l12 : b12 < H.next) (l13 : b13 < H.next) (hx0 : Ext h0 H)
    (g1 : e.get 1 = i64 base) (g2 : e.get 2 = i64 (n : Int)) (g4 : e.get 4 = .c (.ptr b4 0)) (g8 : e.get 8 = .c (.ptr b8 0)) (g11 : e.get 11 = .c (.ptr b11 0)) (g12 : e.get 12 = .c (.ptr b12 0)) (g13 : e.get 13 = .c (.ptr b13 0))
    (k4 : H.get b4 = some (.cells [.int .i64 1] true)) (k8 : H.get b8 = some (vb fun _ => 0)) (k11 : H.get b11 = some (vb a)) (k12 : H.get b12 = some (vb b)) (k13 : H.get b13 = some (vb t))
    (hK : ∀ (e' : Env) (H' : Hp), Ext h0 H' → e'.get 8 = .c (.ptr b8 0) → e'.get 9 = i64 0 → H'.get b8 = some (vb (upto n fun i => elS 1 base (a i) (b i))) → wpK T Q K .ret ⟨e', H', [], none⟩) :
    wpK T Q (.code R11 :: K) .normal ⟨e, H, [], none⟩ := by
  have hE : (upto n fun i => elS 1 base (a i) (b i)) = upto n fun i => oneS 1 (a i) := by congr 1; funext i; simp [elS, h2, sglS]
  rw [hE] at hK
  obtain ⟨R, hR⟩ : ∃ R, (upto n fun i => oneS 1 (a i)) = R := ⟨_, rfl⟩
  rw [hR] at hK
  simp [R11, g1, g2, g4, g8, g11, g12, g13, k4, k8, k11, k12, k13, h2]
  refine k_call ?_; simp
  refine c29 _ _ 1 n a (by omega) hn ha fun h1 hx1 => ?_
  rw [hR]
  have k8' := (hx1.2 b8 l8).trans k8
  simp [k8']
  exact hK _ _ ((hx0.trans hx1).set h8 _) rfl rfl (by rw [Hp.get_set, if_pos rfl])
theorem r11_2 {Q : AExit → St → Prop} {K : List KI} {h0 : Hp} {n b4 b8 b11 b12 b13 : Nat} {base : Int} {a b t : Nat → Int} {e : Env} {H : Hp} (hn : 1 ≤ n ∧ n ≤ 4) (h2 : ¬ base = 2) (ha : VI a) (hb : VI b) (ht : VI t)
    (h8 : h0.next ≤ b8) (l4 : b4 < H.next) (l8 : b8 < H.next) (l11 : b11 < H.next) (l12 : b12 < H.next) (l13 : b13 < H.next) (hx0 : Ext h0 H)
    (g1 : e.get 1 = i64 base) (g2 : e.get 2 = i64 (n : Int)) (g4 : e.get 4 = .c (.ptr b4 0)) (g8 : e.get 8 = .c (.ptr b8 0)) (g11 : e.get 11 = .c (.ptr b11 0)) (g12 : e.get 12 = .c (.ptr b12 0)) (g13 : e.get 13 = .c (.ptr b13 0))
    (k4 : H.get b4 = some (.cells [.int .i64 2] true)) (k8 : H.get b8 = some (vb fun _ => 0)) (k11 : H.get b11 = some (vb a)) (k12 : H.get b12 = some (vb b)) (k13 : H.get b13 = some (vb t))
    (hK : ∀ (e' : Env) (H' : Hp), Ext h0 H' → e'.get 8 = .c (.ptr b8 0) → e'.get 9 = i64 0 → H'.get b8 = some (vb (upto n fun i => elS 2 base (a i) (b i))) → wpK T Q K .ret ⟨e', H', [], none⟩) :
    wpK T Q (.code R11 :: K) .normal ⟨e, H, [], none⟩ := by
  have hE : (upto n fun i => elS 2 base (a i) (b i)) = upto n fun i => oneS 2 (a i) := by congr 1; funext i; simp [elS, h2, sglS]
  rw [hE] at hK
  obtain ⟨R, hR⟩ : ∃ R, (upto n fun i => oneS 2 (a i)) = R := ⟨_, rfl⟩
  rw [hR] at hK
  simp [R11, g1, g2, g4, g8, g11, g12, g13, k4, k8, k11, k12, k13, h2]
  refine k_call ?_; simp
  refine c29 _ _ 2 n a (by omega) hn ha fun h1 hx1 => ?_
  rw [hR]
  have k8' := (hx1.2 b8 l8).trans k8
  simp [k8']
  exact hK _ _ ((hx0.trans hx1).set h8 _) rfl rfl (by rw [Hp.get_set, if_pos rfl])
theorem r11_3 {Q : AExit → St → Prop} {K : List KI} {h0 : Hp} {n b4 b8 b11 b12 b13 : Nat} {base : Int} {a b t : Nat → Int} {e : Env} {H : Hp} (hn : 1 ≤ n ∧ n ≤ 4) (h2 : ¬ base = 2) (ha : VI a) (hb : VI b) (ht : VI t)
    (h8 : h0.next ≤ b8) (l4 : b4 < H.next) (l8 : b8 < H.next) (l11 : b11 < H.next) (l12 : b12 < H.next) (l13 : b13 < H.next) (hx0 : Ext h0 H)
    (g1 : e.get 1 = i64 base) (g2 : e.get 2 = i64 (n : Int)) (g4 : e.get 4 = .c (.ptr b4 0)) (g8 : e.get 8 = .c (.ptr b8 0)) (g11 : e.get 11 = .c (.ptr b11 0)) (g12 : e.get 12 = .c (.ptr b12 0)) (g13 : e.get 13 = .c (.ptr b13 0))
    (k4 : H.get b4 = some (.cells [.int .i64 3] true)) (k8 : H.get b8 = some (vb fun _ => 0)) (k11 : H.get b11 = some (vb a)) (k12 : H.get b12 = some (vb b)) (k13 : H.get b13 = some (vb t))
    (hK : ∀ (e' : Env) (H' : Hp), Ext h0 H' → e'.get 8 = .c (.ptr b8 0) → e'.get 9 = i64 0 → H'.get b8 = some (vb (upto n fun i => elS 3 base (a i) (b i))) → wpK T Q K .ret ⟨e', H', [], none⟩) :
    wpK T Q (.code R11 :: K) .normal ⟨e, H, [], none⟩ := by
  have hE : (upto n fun i => elS 3 base (a i) (b i)) = upto n fun i => oneS 3 (a i) := by congr 1; funext i; simp [elS, h2, sglS]
  rw [hE] at hK
  obtain ⟨R, hR⟩ : ∃ R, (upto n fun i => oneS 3 (a i)) = R := ⟨_, rfl⟩
  rw [hR] at hK
  simp [R11, g1, g2, g4, g8, g11, g12, g13, k4, k8, k11, k12, k13, h2]
  refine k_call ?_; simp
  refine c29 _ _ 3 n a (by omega) hn ha fun h1 hx1 => ?_
  rw [hR]
  have k8' := (hx1.2 b8 l8).trans k8
  simp [k8']
  exact hK _ _ ((hx0.trans hx1).set h8 _) rfl rfl (by rw [Hp.get_set, if_pos rfl])
theorem r11_4 {Q : AExit → St → Prop} {K : List KI} {h0 : Hp} {n b4 b8 b11 b12 b13 : Nat} {base : Int} {a b t : Nat → Int} {e : Env} {H : Hp} (hn : 1 ≤ n ∧ n ≤ 4) (h2 : ¬ base = 2) (ha : VI a) (hb : VI b) (ht : VI t)
    (h8 : h0.next ≤ b8) (l4 : b4 < H.next) (l8 : b8 < H.next) (l11 : b11 < H.next) (l12 : b12 < H.next) (l13 : b13 < H.next) (hx0 : Ext h0 H)
    (g1 : e.get 1 = i64 base) (g2 : e.get 2 = i64 (n : Int)) (g4 : e.get 4 = .c (.ptr b4 0)) (g8 : e.get 8 = .c (.ptr b8 0)) (g11 : e.get 11 = .c (.ptr b11 0)) (g12 : e.get 12 = .c (.ptr b12 0)) (g13 : e.get 13 = .c (.ptr b13 0))
    (k4 : H.get b4 = some (.cells [.int .i64 4] true)) (k8 : H.get b8 = some (vb fun _ => 0)) (k11 : H.get b11 = some (vb a)) (k12 : H.get b12 = some (vb b)) (k13 : H.get b13 = some (vb t))
    (hK : ∀ (e' : Env) (H' : Hp), Ext h0 H' → e'.get 8 = .c (.ptr b8 0) → e'.get 9 = i64 0 → H'.get b8 = some (vb (upto n fun i => elS 4 base (a i) (b i))) → wpK T Q K .ret ⟨e', H', [], none⟩) :
    wpK T Q (.code R11 :: K) .normal ⟨e, H, [], none⟩ := by
  have hE : (upto n fun i => elS 4 base (a i) (b i)) = upto n fun i => oneS 4 (a i) := by congr 1; funext i; simp [elS, h2, sglS]
  rw [hE] at hK
  obtain ⟨R, hR⟩ : ∃ R, (upto n fun i => oneS 4 (a i)) = R := ⟨_, rfl⟩
  rw [hR] at hK
  simp [R11, g1, g2, g4, g8, g11, g12, g13, k4, k8, k11, k12, k13, h2]
  refine k_call ?_; simp
  refine c29 _ _ 4 n a (by omega) hn ha fun h1 hx1 => ?_
  rw [hR]
  have k8' := (hx1.2 b8 l8).trans k8
  simp [k8']
  exact hK _ _ ((hx0.trans hx1).set h8 _) rfl rfl (by rw [Hp.get_set, if_pos rfl])
theorem r11_15 {Q : AExit → St → Prop} {K : List KI} {h0 : Hp} {n b4 b8 b11 b12 b13 : Nat} {base : Int} {a b t : Nat → Int} {e : Env} {H : Hp} (hn : 1 ≤ n ∧ n ≤ 4) (h2 : ¬ base = 2) (ha : VI a) (hb : VI b) (ht : VI t)
    (h8 : h0.next ≤ b8) (l4 : b4 < H.next) (l8 : b8 < H.next) (l11 : b11 < H.next) (l12 : b12 < H.next) (l13 : b13 < H.next) (hx0 : Ext h0 H)
    (g1 : e.get 1 = i64 base) (g2 : e.get 2 = i64 (n : Int)) (g4 : e.get 4 = .c (.ptr b4 0)) (g8 : e.get 8 = .c (.ptr b8 0)) (g11 : e.get 11 = .c (.ptr b11 0)) (g12 : e.get 12 = .c (.ptr b12 0)) (g13 : e.get 13 = .c (.ptr b13 0))
    (k4 : H.get b4 = some (.cells [.int .i64 15] true)) (k8 : H.get b8 = some (vb fun _ => 0)) (k11 : H.get b11 = some (vb a)) (k12 : H.get b12 = some (vb b)) (k13 : H.get b13 = some (vb t))
    (hK : ∀ (e' : Env) (H' : Hp), Ext h0 H' → e'.get 8 = .c (.ptr b8 0) → e'.get 9 = i64 0 → H'.get b8 = some (vb (upto n fun i => elS 15 base (a i) (b i))) → wpK T Q K .ret ⟨e', H', [], none⟩) :
    wpK T Q (.code R11 :: K) .normal ⟨e, H, [], none⟩ := by
  have hE : (upto n fun i => elS 15 base (a i) (b i)) = upto n fun i => powS (a i) (b i) := by congr 1; funext i; simp [elS, h2, sglS]
  rw [hE] at hK
  obtain ⟨R, hR⟩ : ∃ R, (upto n fun i => powS (a i) (b i)) = R := ⟨_, rfl⟩
  rw [hR] at hK
  simp [R11, g1, g2, g4, g8, g11, g12, g13, k4, k8, k11, k12, k13, h2]
  refine k_call ?_; simp
  refine c25 _ _ 30 _ n _ hn.2 ((tells30 (h := H) ha hb l11 l12 k11 k12).le hn.2) fun h1 hx1 => ?_
  rw [hR]
  have k8' := (hx1.2 b8 l8).trans k8
  simp [k8']
  exact hK _ _ ((hx0.trans hx1).set h8 _) rfl rfl (by rw [Hp.get_set, if_pos rfl])
theorem r11_w {Q : AExit → St → Prop} {K : List KI} {h0 : Hp} {n b4 b8 b11 b12 b13 : Nat} {fn base : Int} {a b t : Nat → Int} {e : Env} {H : Hp} (hn : 1 ≤ n ∧ n ≤ 4) (h2 : base = 2) (hf : 24 ≤ fn ∧ fn ≤ 28) (ha : VI a) (hb : VI b) (ht : VI t)
    (h8 : h0.next ≤ b8) (l4 : b4 < H.next) (l8 : b8 < H.next) (l11 : b11 < H.next) (l12 : b12 < H.next) (l13 : b13 < H.next) (hx0 : Ext h0 H)
    (g1 : e.get 1 = i64 base) (g2 : e.get 2 = i64 (n : Int)) (g4 : e.get 4 = .c (.ptr b4 0)) (g8 : e.get 8 = .c (.ptr b8 0)) (g11 : e.get 11 = .c (.ptr b11 0)) (g12 : e.get 12 = .c (.ptr b12 0)) (g13 : e.get 13 = .c (.ptr b13 0))
    (k4 : H.get b4 = some (.cells [.int .i64 fn] true)) (k8 : H.get b8 = some (vb fun _ => 0)) (k11 : H.get b11 = some (vb a)) (k12 : H.get b12 = some (vb b)) (k13 : H.get b13 = some (vb t))
    (hK : ∀ (e' : Env) (H' : Hp), Ext h0 H' → e'.get 8 = .c (.ptr b8 0) → e'.get 9 = i64 0 → H'.get b8 = some (vb (upto n fun i => elS fn base (a i) (b i))) → wpK T Q K .ret ⟨e', H', [], none⟩) :
    wpK T Q (.code R11 :: K) .normal ⟨e, H, [], none⟩ := by
  have hE : (upto n fun i => elS fn base (a i) (b i)) = upto n fun i => wholeS fn (a i) (b i) := by congr 1; funext i; simp [elS, h2]
  rw [hE] at hK
  subst h2
  obtain ⟨R, hR⟩ : ∃ R, (upto n fun i => wholeS fn (a i) (b i)) = R := ⟨_, rfl⟩
  rw [hR] at hK
  simp [R11, g1, g2, g4, g8, g11, g12, g13, k4, k8, k11, k12, k13, show ¬ fn = 29 from by omega, show ¬ fn = 30 from by omega, show ¬ fn = 31 from by omega, show ¬ fn = 32 from by omega, show ¬ fn = 33 from by omega, show ¬ fn = 34 from by omega, show ¬ fn = 35 from by omega]
  refine k_call ?_; simp
  refine c25 _ _ 26 _ n _ hn.2 ((tells26 (h := H) hf ha hb l4 l11 l12 k4 k11 k12).le hn.2) fun h1 hx1 => ?_
  rw [hR]
  have k8' := (hx1.2 b8 l8).trans k8
  simp [k8']
  exact hK _ _ ((hx0.trans hx1).set h8 _) rfl rfl (by rw [Hp.get_set, if_pos rfl])
theorem r11_s {Q : AExit → St → Prop} {K : List KI} {h0 : Hp} {n b4 b8 b11 b12 b13 : Nat} {fn base : Int} {a b t : Nat → Int} {e : Env} {H : Hp} (hn : 1 ≤ n ∧ n ≤ 4) (h2 : ¬ base = 2) (hf : 5 ≤ fn ∧ fn ≤ 10) (ha : VI a) (hb : VI b) (ht : VI t)
    (h8 : h0.next ≤ b8) (l4 : b4 < H.next) (l8 : b8 < H.next) (l11 : b11 < H.next) (l12 : b12 < H.next) (l13 : b13 < H.next) (hx0 : Ext h0 H)
    (g1 : e.get 1 = i64 base) (g2 : e.get 2 = i64 (n : Int)) (g4 : e.get 4 = .c (.ptr b4 0)) (g8 : e.get 8 = .c (.ptr b8 0)) (g11 : e.get 11 = .c (.ptr b11 0)) (g12 : e.get 12 = .c (.ptr b12 0)) (g13 : e.get 13 = .c (.ptr b13 0))
    (k4 : H.get b4 = some (.cells [.int .i64 fn] true)) (k8 : H.get b8 = some (vb fun _ => 0)) (k11 : H.get b11 = some (vb a)) (k12 : H.get b12 = some (vb b)) (k13 : H.get b13 = some (vb t))
    (hK : ∀ (e' : Env) (H' : Hp), Ext h0 H' → e'.get 8 = .c (.ptr b8 0) → e'.get 9 = i64 0 → H'.get b8 = some (vb (upto n fun i => elS fn base (a i) (b i))) → wpK T Q K .ret ⟨e', H', [], none⟩) :
    wpK T Q (.code R11 :: K) .normal ⟨e, H, [], none⟩ := by
  have hE : (upto n fun i => elS fn base (a i) (b i)) = upto n fun i => sglS fn (a i) := by congr 1; funext i; simp [elS, h2, show ¬ 24 ≤ fn from by omega, show ¬ fn = 28 from by omega, show ¬ fn = 15 from by omega, show ¬ 12 ≤ fn from by omega, show ¬ fn = 16 from by omega]
  rw [hE] at hK
  obtain ⟨R, hR⟩ : ∃ R, (upto n fun i => sglS fn (a i)) = R := ⟨_, rfl⟩
  rw [hR] at hK
  simp [R11, g1, g2, g4, g8, g11, g12, g13, k4, k8, k11, k12, k13, h2, show ¬ fn = 29 from by omega, show ¬ fn = 30 from by omega, show ¬ fn = 31 from by omega, show ¬ fn = 32 from by omega, show ¬ fn = 33 from by omega, show ¬ fn = 34 from by omega, show ¬ fn = 35 from by omega, show ¬ fn = 24 from by omega, show ¬ fn = 25 from by omega, show ¬ fn = 26 from by omega, show ¬ fn = 27 from by omega, show ¬ fn = 28 from by omega, show ¬ fn = 1 from by omega, show ¬ fn = 2 from by omega, show ¬ fn = 3 from by omega, show ¬ fn = 4 from by omega, show ¬ fn = 12 from by omega, show ¬ fn = 13 from by omega, show ¬ fn = 14 from by omega, show ¬ fn = 16 from by omega, show ¬ fn = 15 from by omega, show ¬ fn = 17 from by omega, show ¬ fn = 18 from by omega, show ¬ fn = 19 from by omega, show ¬ fn = 21 from by omega, show ¬ fn = 11 from by omega, show ¬ fn = 20 from by omega]
  refine k_call ?_; simp
  refine c38 fn hf _ _ ?_
  simp
  refine k_call ?_; simp
  have k11' : ((H.alloc (.cells [.nilfn] true)).set H.next (.cells [.fn (rootF fn) [] []] true)).get b11 = some (vb a) := by
    rw [Hp.get_set, if_neg (by omega)]
    exact ((Ext.alloc H _).2 b11 l11).trans k11
  refine c25 _ _ 39 _ n _ hn.2 ((tells39 (fn := fn) (h := (H.alloc (.cells [.nilfn] true)).set H.next (.cells [.fn (rootF fn) [] []] true)) hf ha (by simp) (by simp; omega) (by rw [Hp.get_set, if_pos rfl]) k11').le hn.2) fun h1 hx1 => ?_
  rw [hR]
  have hx2 : Ext H h1 := ((Ext.alloc H _).set (Nat.le_refl _) _).trans hx1
  have k8' := (hx2.2 b8 l8).trans k8
  simp [k8']
  exact hK _ _ ((hx0.trans hx2).set h8 _) rfl rfl (by rw [Hp.get_set, if_pos rfl])
end Go.Proofs.YtjlebgfbohihfaaGreat.Am

namespace Go.Proofs.YtjlebgfbohihfaaGreat.Am
open Go
set_option linter.unusedVariables false
set_option linter.unusedSimpArgs false

def F11b : AFun := ⟨4,
 (.seq (.ops [o 4 (.box (.t 0)),o 8 (.alloc [(.int .i32 0),(.int .i32 0),(.int .i32 0),(.int .i32 0)]),o 9 (.mv (ki 0))])
 (.seq (.seq (.ops [o 17 (.ld (.t 4)),o 18 (.call 21 [(.t 17)]),o 10 (.mv (.t 18))])
 (.seq (.ops [o 19 (.mv (.t 10)),o 20 (.bin 0 .eql (.t 19) (ki 0)),o 21 (.mv (.t 20)),⟨(some 22),(.ld (.t 4)),some (21,false)⟩,⟨(some 23),(.mv (.t 1)),some (21,false)⟩,⟨(some 24),(.call 22 [(.t 22),(.t 23)]),some (21,false)⟩,⟨(some 25),(.un .not (.t 24)),some (21,false)⟩,o 26 (.pick (.t 21) (.k (.c (.bool true))) (.t 25)),o 27 (.mv (.t 26)),⟨(some 28),(.mv (.t 2)),some (27,false)⟩,⟨(some 29),(.bin 0 .lss (.t 28) (ki 1)),some (27,false)⟩,o 30 (.pick (.t 27) (.k (.c (.bool true))) (.t 29)),o 31 (.mv (.t 30)),⟨(some 32),(.mv (.t 2)),some (31,false)⟩,⟨(some 33),(.bin 0 .gtr (.t 32) (ki 4)),some (31,false)⟩,o 34 (.pick (.t 31) (.k (.c (.bool true))) (.t 33)),o 35 (.mv (.t 34)),⟨(some 36),(.mv (.t 3)),some (35,false)⟩,⟨(some 37),(.len 1 (.t 36)),some (35,false)⟩,⟨(some 38),(.mv (.t 10)),some (35,false)⟩,⟨(some 39),(.bin 0 .neq (.t 37) (.t 38)),some (35,false)⟩,o 40 (.pick (.t 35) (.k (.c (.bool true))) (.t 39))])
 (.keep [1,2,3,4,8,40] (.cond (.t 40) (.seq (.ops [o 41 (.agg [(.int .i32 0),(.int .i32 0),(.int .i32 0),(.int .i32 0)] []),e (.st 4 (.t 8) (.t 41)),o 9 (.mv (ki 2))])
 .ret)
 .skip))))
 (.seq (.ops [o 42 (.mv (.t 3)),o 43 (.ixa 4 (.t 42) (ki 0)),o 44 (.ldn 4 (.t 43)),o 11 (.alloc [(.int .i32 0),(.int .i32 0),(.int .i32 0),(.int .i32 0)]),e (.st 4 (.t 11) (.t 44))])
 (.seq (.ops [o 12 (.alloc [(.int .i32 0),(.int .i32 0),(.int .i32 0),(.int .i32 0)]),o 13 (.alloc [(.int .i32 0),(.int .i32 0),(.int .i32 0),(.int .i32 0)])])
 (.keep [1,2,3,4,8,11,12,13] (.seq (.seq (.ops [o 45 (.mv (.t 3)),o 46 (.len 1 (.t 45)),o 47 (.bin 0 .gtr (.t 46) (ki 1))])
 (.cond (.t 47) (.ops [o 48 (.mv (.t 3)),o 49 (.ixa 4 (.t 48) (ki 1)),o 50 (.ldn 4 (.t 49)),e (.st 4 (.t 12) (.t 50))])
 .skip))
 (.keep [1,2,3,4,8,11,12,13] (.seq (.seq (.ops [o 51 (.mv (.t 3)),o 52 (.len 1 (.t 51)),o 53 (.bin 0 .gtr (.t 52) (ki 2))])
 (.cond (.t 53) (.ops [o 54 (.mv (.t 3)),o 55 (.ixa 4 (.t 54) (ki 2)),o 56 (.ldn 4 (.t 55)),e (.st 4 (.t 13) (.t 56))])
 .skip))
 (.keep [1,2,4,8,11,12,13] R11))))))))),
 [.celln 8 4,.tmp 9]⟩
theorem r11 {Q : AExit → St → Prop} {K : List KI} {h0 : Hp} {n b4 b8 b11 b12 b13 : Nat} {fn base : Int} {a b t : Nat → Int} {e : Env} {H : Hp} (hn : 1 ≤ n ∧ n ≤ 4) (hr : rtS fn base ≠ 0) (ha : VI a) (hb : VI b) (ht : VI t)
    (h8 : h0.next ≤ b8) (l4 : b4 < H.next) (l8 : b8 < H.next) (l11 : b11 < H.next) (l12 : b12 < H.next) (l13 : b13 < H.next) (hx0 : Ext h0 H)
    (g1 : e.get 1 = i64 base) (g2 : e.get 2 = i64 (n : Int)) (g4 : e.get 4 = .c (.ptr b4 0)) (g8 : e.get 8 = .c (.ptr b8 0)) (g11 : e.get 11 = .c (.ptr b11 0)) (g12 : e.get 12 = .c (.ptr b12 0)) (g13 : e.get 13 = .c (.ptr b13 0))
    (k4 : H.get b4 = some (.cells [.int .i64 fn] true)) (k8 : H.get b8 = some (vb fun _ => 0)) (k11 : H.get b11 = some (vb a)) (k12 : H.get b12 = some (vb b)) (k13 : H.get b13 = some (vb t))
    (hK : ∀ (e' : Env) (H' : Hp), Ext h0 H' → e'.get 8 = .c (.ptr b8 0) → e'.get 9 = i64 0 → H'.get b8 = some (vb (appS fn base n a b t)) → wpK T Q K .ret ⟨e', H', [], none⟩) :
    wpK T Q (.code R11 :: K) .normal ⟨e, H, [], none⟩ := by
  have hf := rt_ne hr
  unfold appS at hK
  by_cases e29 : fn = 29
  · rw [if_pos e29] at hK; subst e29; exact r11_29 hn ha hb ht h8 l4 l8 l11 l12 l13 hx0 g1 g2 g4 g8 g11 g12 g13 k4 k8 k11 k12 k13 hK
  rw [if_neg e29] at hK
  by_cases e30 : fn = 30
  · rw [if_pos e30] at hK; subst e30; exact r11_30 hn ha hb ht h8 l4 l8 l11 l12 l13 hx0 g1 g2 g4 g8 g11 g12 g13 k4 k8 k11 k12 k13 hK
  rw [if_neg e30] at hK
  by_cases e31 : fn = 31
  · rw [if_pos e31] at hK; subst e31; exact r11_31 hn ha hb ht h8 l4 l8 l11 l12 l13 hx0 g1 g2 g4 g8 g11 g12 g13 k4 k8 k11 k12 k13 hK
  rw [if_neg e31] at hK
  by_cases e32 : fn = 32
  · rw [if_pos e32] at hK; subst e32; exact r11_32 hn ha hb ht h8 l4 l8 l11 l12 l13 hx0 g1 g2 g4 g8 g11 g12 g13 k4 k8 k11 k12 k13 hK
  rw [if_neg e32] at hK
  by_cases e33 : fn = 33
  · rw [if_pos e33] at hK; subst e33; exact r11_33 hn ha hb ht h8 l4 l8 l11 l12 l13 hx0 g1 g2 g4 g8 g11 g12 g13 k4 k8 k11 k12 k13 hK
  rw [if_neg e33] at hK
  by_cases e34 : fn = 34
  · rw [if_pos e34] at hK; subst e34; exact r11_34 hn ha hb ht h8 l4 l8 l11 l12 l13 hx0 g1 g2 g4 g8 g11 g12 g13 k4 k8 k11 k12 k13 hK
  rw [if_neg e34] at hK
  by_cases e35 : fn = 35
  · rw [if_pos e35] at hK; subst e35; exact r11_35 hn ha hb ht h8 l4 l8 l11 l12 l13 hx0 g1 g2 g4 g8 g11 g12 g13 k4 k8 k11 k12 k13 hK
  rw [if_neg e35] at hK
  by_cases h2 : base = 2
  · rw [if_neg (show ¬ fn = 11 from by omega), if_neg (show ¬ fn = 17 from by omega), if_neg (show ¬ fn = 18 from by omega), if_neg (show ¬ fn = 19 from by omega), if_neg (show ¬ fn = 20 from by omega), if_neg (show ¬ fn = 21 from by omega)] at hK
    exact r11_w hn h2 (by omega) ha hb ht h8 l4 l8 l11 l12 l13 hx0 g1 g2 g4 g8 g11 g12 g13 k4 k8 k11 k12 k13 hK
  by_cases e11 : fn = 11
  · rw [if_pos e11] at hK; subst e11; exact r11_11 hn h2 ha hb ht h8 l4 l8 l11 l12 l13 hx0 g1 g2 g4 g8 g11 g12 g13 k4 k8 k11 k12 k13 hK
  rw [if_neg e11] at hK
  by_cases e17 : fn = 17
  · rw [if_pos e17] at hK; subst e17; exact r11_17 hn h2 ha hb ht h8 l4 l8 l11 l12 l13 hx0 g1 g2 g4 g8 g11 g12 g13 k4 k8 k11 k12 k13 hK
  rw [if_neg e17] at hK
  by_cases e18 : fn = 18
  · rw [if_pos e18] at hK; subst e18; exact r11_18 hn h2 ha hb ht h8 l4 l8 l11 l12 l13 hx0 g1 g2 g4 g8 g11 g12 g13 k4 k8 k11 k12 k13 hK
  rw [if_neg e18] at hK
  by_cases e19 : fn = 19
  · rw [if_pos e19] at hK; subst e19; exact r11_19 hn h2 ha hb ht h8 l4 l8 l11 l12 l13 hx0 g1 g2 g4 g8 g11 g12 g13 k4 k8 k11 k12 k13 hK
  rw [if_neg e19] at hK
  by_cases e20 : fn = 20
  · rw [if_pos e20] at hK; subst e20; exact r11_20 hn h2 ha hb ht h8 l4 l8 l11 l12 l13 hx0 g1 g2 g4 g8 g11 g12 g13 k4 k8 k11 k12 k13 hK
  rw [if_neg e20] at hK
  by_cases e21 : fn = 21
  · rw [if_pos e21] at hK; subst e21; exact r11_21 hn h2 ha hb ht h8 l4 l8 l11 l12 l13 hx0 g1 g2 g4 g8 g11 g12 g13 k4 k8 k11 k12 k13 hK
  rw [if_neg e21] at hK
  by_cases e24 : fn = 24
  · subst e24; exact r11_24 hn h2 ha hb ht h8 l4 l8 l11 l12 l13 hx0 g1 g2 g4 g8 g11 g12 g13 k4 k8 k11 k12 k13 hK
  by_cases e25 : fn = 25
  · subst e25; exact r11_25 hn h2 ha hb ht h8 l4 l8 l11 l12 l13 hx0 g1 g2 g4 g8 g11 g12 g13 k4 k8 k11 k12 k13 hK
  by_cases e26 : fn = 26
  · subst e26; exact r11_26 hn h2 ha hb ht h8 l4 l8 l11 l12 l13 hx0 g1 g2 g4 g8 g11 g12 g13 k4 k8 k11 k12 k13 hK
  by_cases e27 : fn = 27
  · subst e27; exact r11_27 hn h2 ha hb ht h8 l4 l8 l11 l12 l13 hx0 g1 g2 g4 g8 g11 g12 g13 k4 k8 k11 k12 k13 hK
  by_cases e28 : fn = 28
  · subst e28; exact r11_28 hn h2 ha hb ht h8 l4 l8 l11 l12 l13 hx0 g1 g2 g4 g8 g11 g12 g13 k4 k8 k11 k12 k13 hK
  by_cases e1 : fn = 1
  · subst e1; exact r11_1 hn h2 ha hb ht h8 l4 l8 l11 l12 l13 hx0 g1 g2 g4 g8 g11 g12 g13 k4 k8 k11 k12 k13 hK
  by_cases e2 : fn = 2
  · subst e2; exact r11_2 hn h2 ha hb ht h8 l4 l8 l11 l12 l13 hx0 g1 g2 g4 g8 g11 g12 g13 k4 k8 k11 k12 k13 hK
  by_cases e3 : fn = 3
  · subst e3; exact r11_3 hn h2 ha hb ht h8 l4 l8 l11 l12 l13 hx0 g1 g2 g4 g8 g11 g12 g13 k4 k8 k11 k12 k13 hK
  by_cases e4 : fn = 4
  · subst e4; exact r11_4 hn h2 ha hb ht h8 l4 l8 l11 l12 l13 hx0 g1 g2 g4 g8 g11 g12 g13 k4 k8 k11 k12 k13 hK
  by_cases e12 : fn = 12
  · subst e12; exact r11_12 hn h2 ha hb ht h8 l4 l8 l11 l12 l13 hx0 g1 g2 g4 g8 g11 g12 g13 k4 k8 k11 k12 k13 hK
  by_cases e13 : fn = 13
  · subst e13; exact r11_13 hn h2 ha hb ht h8 l4 l8 l11 l12 l13 hx0 g1 g2 g4 g8 g11 g12 g13 k4 k8 k11 k12 k13 hK
  by_cases e14 : fn = 14
  · subst e14; exact r11_14 hn h2 ha hb ht h8 l4 l8 l11 l12 l13 hx0 g1 g2 g4 g8 g11 g12 g13 k4 k8 k11 k12 k13 hK
  by_cases e16 : fn = 16
  · subst e16; exact r11_16 hn h2 ha hb ht h8 l4 l8 l11 l12 l13 hx0 g1 g2 g4 g8 g11 g12 g13 k4 k8 k11 k12 k13 hK
  by_cases e15 : fn = 15
  · subst e15; exact r11_15 hn h2 ha hb ht h8 l4 l8 l11 l12 l13 hx0 g1 g2 g4 g8 g11 g12 g13 k4 k8 k11 k12 k13 hK
  exact r11_s hn h2 (by omega) ha hb ht h8 l4 l8 l11 l12 l13 hx0 g1 g2 g4 g8 g11 g12 g13 k4 k8 k11 k12 k13 hK
theorem fn_one {fn : Int} (h : tkS fn = 1) : fn = 1 ∨ fn = 2 ∨ fn = 3 ∨ fn = 4 ∨ fn = 5 ∨ fn = 6 ∨ fn = 7 ∨ fn = 8 ∨ fn = 9 ∨ fn = 10 ∨ fn = 11 ∨ fn = 20 ∨ fn = 28 ∨ fn = 35 := by
  unfold tkS at h
  by_cases h1 : fn = 17 ∨ fn = 18
  · rw [if_pos h1] at h; omega
  rw [if_neg h1] at h
  by_cases h2 : (1 ≤ fn ∧ fn ≤ 11) ∨ fn = 20 ∨ fn = 28 ∨ fn = 35
  · omega
  rw [if_neg h2] at h
  revert h; split <;> intro h <;> omega
theorem tk_range (fn : Int) : tkS fn = 0 ∨ tkS fn = 1 ∨ tkS fn = 2 ∨ tkS fn = 3 := by
  unfold tkS
  repeat' split
  all_goals simp
theorem app_one {fn base : Int} {n : Nat} {a b t b' t' : Nat → Int} (h : tkS fn = 1) (h2 : base = 2 → 24 ≤ fn) : appS fn base n a b t = appS fn base n a b' t' := by
  rcases fn_one h with rfl | rfl | rfl | rfl | rfl | rfl | rfl | rfl | rfl | rfl | rfl | rfl | rfl | rfl
  all_goals first
    | (have hb : ¬ base = 2 := fun h => by have := h2 h; omega
       simp [appS, elS, sglS, hb])
    | simp [appS, elS, wholeS, sglS]
theorem app_two {fn base : Int} {n : Nat} {a b t t' : Nat → Int} (h : tkS fn = 2) : appS fn base n a b t = appS fn base n a b t' := by
  have h1 : ¬ fn = 17 := by rintro rfl; simp [tkS] at h
  have h2 : ¬ fn = 18 := by rintro rfl; simp [tkS] at h
  simp only [appS, if_neg h1, if_neg h2]
theorem zero_VI : VI fun _ => 0 := fun _ => zero_I32
/-- The three vectors together. -/
abbrev vx (a b t : Nat → Int) : List Cell := [.int .i32 (a 0), .int .i32 (a 1), .int .i32 (a 2), .int .i32 (a 3), .int .i32 (b 0), .int .i32 (b 1), .int .i32 (b 2), .int .i32 (b 3), .int .i32 (t 0), .int .i32 (t 1), .int .i32 (t 2), .int .i32 (t 3)]
section
variable (h : Hp) (Q : CallQ)
theorem rt_tk {fn base : Int} (hr : rtS fn base ≠ 0) : rtS fn base = tkS fn ∧ maS fn base = true := by
  unfold rtS at hr ⊢
  by_cases hc : tkS fn = 0 ∨ maS fn base = false
  · rw [if_pos hc] at hr; exact absurd rfl hr
  · rw [if_neg hc]
    rw [not_or] at hc
    exact ⟨rfl, by have := hc.2; revert this; cases maS fn base <;> simp⟩
theorem c11_1 (fn base : Int) (n bs : Nat) (a b t : Nat → Int) (hr : rtS fn base ≠ 0) (hm : tkS fn = 1) (hn : 1 ≤ n ∧ n ≤ 4) (ha : VI a) (hb : VI b) (ht : VI t) (hs : h.get bs = some (.cells (vx a b t) true)) (hl : bs < h.next)
    (hQ : ∀ h', Ext h h' → Q (.tup [.inr (vc (appS fn base n a b t)), .inl (.int .i64 0)]) h') : wpC T 11 [i64 fn, i64 base, i64 (n : Int), .c (.slice bs 0 1 3 4)] h Q := by
  refine k_code (fn := F11b) rfl rfl ?_
  have hma := (rt_tk hr).2
  rw [app_one (b' := fun _ => 0) (t' := fun _ => 0) hm (fun h => ((rt_ne hr).2.2.2.2.2.2.1 h).1)] at hQ
  simp [F11b]
  refine k_call ?_; simp
  refine c21 _ _ fn ?_
  simp [hm]
  refine k_call ?_; simp
  refine c22 _ _ fn base ?_
  have e1 : bs ≠ h.next := by omega
  have e2 : bs ≠ h.next + 1 := by omega
  have e3 : bs ≠ h.next + 1 + 1 := by omega
  have e4 : bs ≠ h.next + 1 + 1 + 1 := by omega
  have e5 : bs ≠ h.next + 1 + 1 + 1 + 1 := by omega
  simp [hma, show ¬ n < 1 from by omega, show ¬ (n : Int) < 1 from by omega, show ¬ 4 < n from by omega, show ¬ (4 : Int) < (n : Int) from by omega, show ¬ n = 0 from by omega, hs, e1, e2, e3, e4, e5]
  refine r11 (h0 := h) (n := n) (fn := fn) (base := base) (a := a) (b := (fun _ => 0)) (t := (fun _ => 0)) (b4 := h.next) (b8 := h.next + 1) (b11 := h.next + 1 + 1) (b12 := h.next + 1 + 1 + 1) (b13 := h.next + 1 + 1 + 1 + 1) hn hr ha zero_VI zero_VI (by omega) ?_ ?_ ?_ ?_ ?_ ?_ rfl rfl rfl rfl rfl rfl rfl ?_ ?_ ?_ ?_ ?_ ?_
  · simp; try omega
  · simp; try omega
  · simp; try omega
  · simp; try omega
  · simp
  · exact ((((((Ext.alloc h _).alloc' _).alloc' _).set (by omega) _).alloc' _).alloc' _)
  · simp
  · simp
  · simp
  · simp
  · simp
  · intro e H hx q8 q9 qb
    simp [q8, q9, qb]
    exact hQ _ hx
theorem c11_2 (fn base : Int) (n bs : Nat) (a b t : Nat → Int) (hr : rtS fn base ≠ 0) (hm : tkS fn = 2) (hn : 1 ≤ n ∧ n ≤ 4) (ha : VI a) (hb : VI b) (ht : VI t) (hs : h.get bs = some (.cells (vx a b t) true)) (hl : bs < h.next)
    (hQ : ∀ h', Ext h h' → Q (.tup [.inr (vc (appS fn base n a b t)), .inl (.int .i64 0)]) h') : wpC T 11 [i64 fn, i64 base, i64 (n : Int), .c (.slice bs 0 2 3 4)] h Q := by
  refine k_code (fn := F11b) rfl rfl ?_
  have hma := (rt_tk hr).2
  rw [app_two (t' := fun _ => 0) hm] at hQ
  simp [F11b]
  refine k_call ?_; simp
  refine c21 _ _ fn ?_
  simp [hm]
  refine k_call ?_; simp
  refine c22 _ _ fn base ?_
  have e1 : bs ≠ h.next := by omega
  have e2 : bs ≠ h.next + 1 := by omega
  have e3 : bs ≠ h.next + 1 + 1 := by omega
  have e4 : bs ≠ h.next + 1 + 1 + 1 := by omega
  have e5 : bs ≠ h.next + 1 + 1 + 1 + 1 := by omega
  simp [hma, show ¬ n < 1 from by omega, show ¬ (n : Int) < 1 from by omega, show ¬ 4 < n from by omega, show ¬ (4 : Int) < (n : Int) from by omega, show ¬ n = 0 from by omega, hs, e1, e2, e3, e4, e5]
  refine r11 (h0 := h) (n := n) (fn := fn) (base := base) (a := a) (b := b) (t := (fun _ => 0)) (b4 := h.next) (b8 := h.next + 1) (b11 := h.next + 1 + 1) (b12 := h.next + 1 + 1 + 1) (b13 := h.next + 1 + 1 + 1 + 1) hn hr ha hb zero_VI (by omega) ?_ ?_ ?_ ?_ ?_ ?_ rfl rfl rfl rfl rfl rfl rfl ?_ ?_ ?_ ?_ ?_ ?_
  · simp; try omega
  · simp; try omega
  · simp; try omega
  · simp; try omega
  · simp
  · exact ((((((Ext.alloc h _).alloc' _).alloc' _).set (by omega) _).alloc' _).alloc' _).set (by omega) _
  · simp
  · simp
  · simp
  · simp
  · simp
  · intro e H hx q8 q9 qb
    simp [q8, q9, qb]
    exact hQ _ hx
theorem c11_3 (fn base : Int) (n bs : Nat) (a b t : Nat → Int) (hr : rtS fn base ≠ 0) (hm : tkS fn = 3) (hn : 1 ≤ n ∧ n ≤ 4) (ha : VI a) (hb : VI b) (ht : VI t) (hs : h.get bs = some (.cells (vx a b t) true)) (hl : bs < h.next)
    (hQ : ∀ h', Ext h h' → Q (.tup [.inr (vc (appS fn base n a b t)), .inl (.int .i64 0)]) h') : wpC T 11 [i64 fn, i64 base, i64 (n : Int), .c (.slice bs 0 3 3 4)] h Q := by
  refine k_code (fn := F11b) rfl rfl ?_
  have hma := (rt_tk hr).2
  skip
  simp [F11b]
  refine k_call ?_; simp
  refine c21 _ _ fn ?_
  simp [hm]
  refine k_call ?_; simp
  refine c22 _ _ fn base ?_
  have e1 : bs ≠ h.next := by omega
  have e2 : bs ≠ h.next + 1 := by omega
  have e3 : bs ≠ h.next + 1 + 1 := by omega
  have e4 : bs ≠ h.next + 1 + 1 + 1 := by omega
  have e5 : bs ≠ h.next + 1 + 1 + 1 + 1 := by omega
  simp [hma, show ¬ n < 1 from by omega, show ¬ (n : Int) < 1 from by omega, show ¬ 4 < n from by omega, show ¬ (4 : Int) < (n : Int) from by omega, show ¬ n = 0 from by omega, hs, e1, e2, e3, e4, e5]
  refine r11 (h0 := h) (n := n) (fn := fn) (base := base) (a := a) (b := b) (t := t) (b4 := h.next) (b8 := h.next + 1) (b11 := h.next + 1 + 1) (b12 := h.next + 1 + 1 + 1) (b13 := h.next + 1 + 1 + 1 + 1) hn hr ha hb ht (by omega) ?_ ?_ ?_ ?_ ?_ ?_ rfl rfl rfl rfl rfl rfl rfl ?_ ?_ ?_ ?_ ?_ ?_
  · simp; try omega
  · simp; try omega
  · simp; try omega
  · simp; try omega
  · simp
  · exact (((((((Ext.alloc h _).alloc' _).alloc' _).set (by omega) _).alloc' _).alloc' _).set (by omega) _).set (by omega) _
  · simp
  · simp
  · simp
  · simp
  · simp
  · intro e H hx q8 q9 qb
    simp [q8, q9, qb]
    exact hQ _ hx
theorem c11_no (fn base : Int) (n m bs : Nat) (hno : rtS fn base = 0 ∨ (m : Int) ≠ rtS fn base ∨ n < 1 ∨ 4 < n)
    (hQ : ∀ h', Ext h h' → Q (.tup [.inr [.int .i32 0, .int .i32 0, .int .i32 0, .int .i32 0], .inl (.int .i64 2)]) h') : wpC T 11 [i64 fn, i64 base, i64 (n : Int), .c (.slice bs 0 m 3 4)] h Q := by
  refine k_code (fn := F11b) rfl rfl ?_
  simp [F11b]
  refine k_call ?_; simp
  refine c21 _ _ fn ?_
  have hfin := hQ _ ((((Ext.alloc h (.cells [.int .i64 fn] true)).alloc' (.cells [.int .i32 0, .int .i32 0, .int .i32 0, .int .i32 0] true))).set (b := h.next + 1) (by omega) (.cells [.int .i32 0, .int .i32 0, .int .i32 0, .int .i32 0] true))
  by_cases h0 : tkS fn = 0
  · simp [h0]
    exact hfin
  simp [h0]
  refine k_call ?_; simp
  refine c22 _ _ fn base ?_
  cases hma : maS fn base
  · simp
    exact hfin
  have hrt : rtS fn base = tkS fn := by unfold rtS; rw [if_neg]; rw [hma]; simp [h0]
  by_cases n1 : n < 1
  · simp [n1, show (n : Int) < 1 from by omega, show n = 0 from by omega]
    exact hfin
  by_cases n4 : 4 < n
  · simp [n1, n4, show ¬ (n : Int) < 1 from by omega, show (4 : Int) < (n : Int) from by omega, show ¬ n = 0 from by omega]
    exact hfin
  have hm : ¬ (m : Int) = tkS fn := by rw [hrt] at hno; omega
  simp [n1, n4, show ¬ (n : Int) < 1 from by omega, show ¬ (4 : Int) < (n : Int) from by omega, show ¬ n = 0 from by omega, hm]
  exact hfin
end
end Go.Proofs.YtjlebgfbohihfaaGreat.Am
