/-
  The abstract code of functions is the code of the program: 3.
-/
import Derived.Test.YtjlebgfbohihfaaGreatGrT
import Derived.Test.YtjlebgfbohihfaaGreatChecked
namespace Go.Proofs.YtjlebgfbohihfaaGreat.Am
open Go Go.Proofs
theorem ck160 : funOk Tryz.prog Tryz.f160 F160 = true := by kernel_rfl
theorem cf160 : CodeFor Tryz.prog 160 F160 := .of (F := Tryz.f160) Tryz.func160 ck160
theorem ck161 : funOk Tryz.prog Tryz.f161 F161 = true := by kernel_rfl
theorem cf161 : CodeFor Tryz.prog 161 F161 := .of (F := Tryz.f161) Tryz.func161 ck161
theorem ck162 : funOk Tryz.prog Tryz.f162 F162 = true := by kernel_rfl
theorem cf162 : CodeFor Tryz.prog 162 F162 := .of (F := Tryz.f162) Tryz.func162 ck162
theorem ck163 : funOk Tryz.prog Tryz.f163 F163 = true := by kernel_rfl
theorem cf163 : CodeFor Tryz.prog 163 F163 := .of (F := Tryz.f163) Tryz.func163 ck163
theorem ck164 : funOk Tryz.prog Tryz.f164 F164 = true := by kernel_rfl
theorem cf164 : CodeFor Tryz.prog 164 F164 := .of (F := Tryz.f164) Tryz.func164 ck164
theorem ck165 : funOk Tryz.prog Tryz.f165 F165 = true := by kernel_rfl
theorem cf165 : CodeFor Tryz.prog 165 F165 := .of (F := Tryz.f165) Tryz.func165 ck165
theorem ck166 : funOk Tryz.prog Tryz.f166 F166 = true := by kernel_rfl
theorem cf166 : CodeFor Tryz.prog 166 F166 := .of (F := Tryz.f166) Tryz.func166 ck166
theorem ck167 : funOk Tryz.prog Tryz.f167 F167 = true := by kernel_rfl
theorem cf167 : CodeFor Tryz.prog 167 F167 := .of (F := Tryz.f167) Tryz.func167 ck167
theorem ck168 : funOk Tryz.prog Tryz.f168 F168 = true := by kernel_rfl
theorem cf168 : CodeFor Tryz.prog 168 F168 := .of (F := Tryz.f168) Tryz.func168 ck168
theorem ck169 : funOk Tryz.prog Tryz.f169 F169 = true := by kernel_rfl
theorem cf169 : CodeFor Tryz.prog 169 F169 := .of (F := Tryz.f169) Tryz.func169 ck169
theorem ck170 : funOk Tryz.prog Tryz.f170 F170 = true := by kernel_rfl
theorem cf170 : CodeFor Tryz.prog 170 F170 := .of (F := Tryz.f170) Tryz.func170 ck170
theorem ck171 : funOk Tryz.prog Tryz.f171 F171 = true := by kernel_rfl
theorem cf171 : CodeFor Tryz.prog 171 F171 := .of (F := Tryz.f171) Tryz.func171 ck171
theorem ck172 : funOk Tryz.prog Tryz.f172 F172 = true := by kernel_rfl
theorem cf172 : CodeFor Tryz.prog 172 F172 := .of (F := Tryz.f172) Tryz.func172 ck172
theorem ck173 : funOk Tryz.prog Tryz.f173 F173 = true := by kernel_rfl
theorem cf173 : CodeFor Tryz.prog 173 F173 := .of (F := Tryz.f173) Tryz.func173 ck173
theorem ck174 : funOk Tryz.prog Tryz.f174 F174 = true := by kernel_rfl
theorem cf174 : CodeFor Tryz.prog 174 F174 := .of (F := Tryz.f174) Tryz.func174 ck174
theorem ck175 : funOk Tryz.prog Tryz.f175 F175 = true := by kernel_rfl
theorem cf175 : CodeFor Tryz.prog 175 F175 := .of (F := Tryz.f175) Tryz.func175 ck175
theorem ck176 : funOk Tryz.prog Tryz.f176 F176 = true := by kernel_rfl
theorem cf176 : CodeFor Tryz.prog 176 F176 := .of (F := Tryz.f176) Tryz.func176 ck176
theorem ck177 : funOk Tryz.prog Tryz.f177 F177 = true := by kernel_rfl
theorem cf177 : CodeFor Tryz.prog 177 F177 := .of (F := Tryz.f177) Tryz.func177 ck177
theorem ck178 : funOk Tryz.prog Tryz.f178 F178 = true := by kernel_rfl
theorem cf178 : CodeFor Tryz.prog 178 F178 := .of (F := Tryz.f178) Tryz.func178 ck178
theorem ck179 : funOk Tryz.prog Tryz.f179 F179 = true := by kernel_rfl
theorem cf179 : CodeFor Tryz.prog 179 F179 := .of (F := Tryz.f179) Tryz.func179 ck179
theorem ck180 : funOk Tryz.prog Tryz.f180 F180 = true := by kernel_rfl
theorem cf180 : CodeFor Tryz.prog 180 F180 := .of (F := Tryz.f180) Tryz.func180 ck180
theorem ck181 : funOk Tryz.prog Tryz.f181 F181 = true := by kernel_rfl
theorem cf181 : CodeFor Tryz.prog 181 F181 := .of (F := Tryz.f181) Tryz.func181 ck181
theorem ck182 : funOk Tryz.prog Tryz.f182 F182 = true := by kernel_rfl
theorem cf182 : CodeFor Tryz.prog 182 F182 := .of (F := Tryz.f182) Tryz.func182 ck182
theorem ck183 : funOk Tryz.prog Tryz.f183 F183 = true := by kernel_rfl
theorem cf183 : CodeFor Tryz.prog 183 F183 := .of (F := Tryz.f183) Tryz.func183 ck183
theorem ck184 : funOk Tryz.prog Tryz.f184 F184 = true := by kernel_rfl
theorem cf184 : CodeFor Tryz.prog 184 F184 := .of (F := Tryz.f184) Tryz.func184 ck184
theorem ck185 : funOk Tryz.prog Tryz.f185 F185 = true := by kernel_rfl
theorem cf185 : CodeFor Tryz.prog 185 F185 := .of (F := Tryz.f185) Tryz.func185 ck185
theorem ck186 : funOk Tryz.prog Tryz.f186 F186 = true := by kernel_rfl
theorem cf186 : CodeFor Tryz.prog 186 F186 := .of (F := Tryz.f186) Tryz.func186 ck186
theorem ck188 : funOk Tryz.prog Tryz.f188 F188 = true := by kernel_rfl
theorem cf188 : CodeFor Tryz.prog 188 F188 := .of (F := Tryz.f188) Tryz.func188 ck188
theorem ck189 : funOk Tryz.prog Tryz.f189 F189 = true := by kernel_rfl
theorem cf189 : CodeFor Tryz.prog 189 F189 := .of (F := Tryz.f189) Tryz.func189 ck189
theorem ck190 : funOk Tryz.prog Tryz.f190 F190 = true := by kernel_rfl
theorem cf190 : CodeFor Tryz.prog 190 F190 := .of (F := Tryz.f190) Tryz.func190 ck190
theorem ck191 : funOk Tryz.prog Tryz.f191 F191 = true := by kernel_rfl
theorem cf191 : CodeFor Tryz.prog 191 F191 := .of (F := Tryz.f191) Tryz.func191 ck191
theorem ck192 : funOk Tryz.prog Tryz.f192 F192 = true := by kernel_rfl
theorem cf192 : CodeFor Tryz.prog 192 F192 := .of (F := Tryz.f192) Tryz.func192 ck192
theorem ck193 : funOk Tryz.prog Tryz.f193 F193 = true := by kernel_rfl
theorem cf193 : CodeFor Tryz.prog 193 F193 := .of (F := Tryz.f193) Tryz.func193 ck193
theorem ck194 : funOk Tryz.prog Tryz.f194 F194 = true := by kernel_rfl
theorem cf194 : CodeFor Tryz.prog 194 F194 := .of (F := Tryz.f194) Tryz.func194 ck194
theorem ck195 : funOk Tryz.prog Tryz.f195 F195 = true := by kernel_rfl
theorem cf195 : CodeFor Tryz.prog 195 F195 := .of (F := Tryz.f195) Tryz.func195 ck195
theorem ck196 : funOk Tryz.prog Tryz.f196 F196 = true := by kernel_rfl
theorem cf196 : CodeFor Tryz.prog 196 F196 := .of (F := Tryz.f196) Tryz.func196 ck196
theorem ck197 : funOk Tryz.prog Tryz.f197 F197 = true := by kernel_rfl
theorem cf197 : CodeFor Tryz.prog 197 F197 := .of (F := Tryz.f197) Tryz.func197 ck197
theorem ck198 : funOk Tryz.prog Tryz.f198 F198 = true := by kernel_rfl
theorem cf198 : CodeFor Tryz.prog 198 F198 := .of (F := Tryz.f198) Tryz.func198 ck198
theorem ck199 : funOk Tryz.prog Tryz.f199 F199 = true := by kernel_rfl
theorem cf199 : CodeFor Tryz.prog 199 F199 := .of (F := Tryz.f199) Tryz.func199 ck199
theorem ck200 : funOk Tryz.prog Tryz.f200 F200 = true := by kernel_rfl
theorem cf200 : CodeFor Tryz.prog 200 F200 := .of (F := Tryz.f200) Tryz.func200 ck200
theorem ck201 : funOk Tryz.prog Tryz.f201 F201 = true := by kernel_rfl
theorem cf201 : CodeFor Tryz.prog 201 F201 := .of (F := Tryz.f201) Tryz.func201 ck201
theorem ck202 : funOk Tryz.prog Tryz.f202 F202 = true := by kernel_rfl
theorem cf202 : CodeFor Tryz.prog 202 F202 := .of (F := Tryz.f202) Tryz.func202 ck202
theorem ck203 : funOk Tryz.prog Tryz.f203 F203 = true := by kernel_rfl
theorem cf203 : CodeFor Tryz.prog 203 F203 := .of (F := Tryz.f203) Tryz.func203 ck203
theorem ck204 : funOk Tryz.prog Tryz.f204 F204 = true := by kernel_rfl
theorem cf204 : CodeFor Tryz.prog 204 F204 := .of (F := Tryz.f204) Tryz.func204 ck204
theorem ck205 : funOk Tryz.prog Tryz.f205 F205 = true := by kernel_rfl
theorem cf205 : CodeFor Tryz.prog 205 F205 := .of (F := Tryz.f205) Tryz.func205 ck205
theorem ck206 : funOk Tryz.prog Tryz.f206 F206 = true := by kernel_rfl
theorem cf206 : CodeFor Tryz.prog 206 F206 := .of (F := Tryz.f206) Tryz.func206 ck206
theorem ck207 : funOk Tryz.prog Tryz.f207 F207 = true := by kernel_rfl
theorem cf207 : CodeFor Tryz.prog 207 F207 := .of (F := Tryz.f207) Tryz.func207 ck207
theorem ck208 : funOk Tryz.prog Tryz.f208 F208 = true := by kernel_rfl
theorem cf208 : CodeFor Tryz.prog 208 F208 := .of (F := Tryz.f208) Tryz.func208 ck208
theorem ck209 : funOk Tryz.prog Tryz.f209 F209 = true := by kernel_rfl
theorem cf209 : CodeFor Tryz.prog 209 F209 := .of (F := Tryz.f209) Tryz.func209 ck209
theorem ck210 : funOk Tryz.prog Tryz.f210 F210 = true := by kernel_rfl
theorem cf210 : CodeFor Tryz.prog 210 F210 := .of (F := Tryz.f210) Tryz.func210 ck210
theorem ck211 : funOk Tryz.prog Tryz.f211 F211 = true := by kernel_rfl
theorem cf211 : CodeFor Tryz.prog 211 F211 := .of (F := Tryz.f211) Tryz.func211 ck211
theorem ck212 : funOk Tryz.prog Tryz.f212 F212 = true := by kernel_rfl
theorem cf212 : CodeFor Tryz.prog 212 F212 := .of (F := Tryz.f212) Tryz.func212 ck212
theorem ck213 : funOk Tryz.prog Tryz.f213 F213 = true := by kernel_rfl
theorem cf213 : CodeFor Tryz.prog 213 F213 := .of (F := Tryz.f213) Tryz.func213 ck213
theorem ck214 : funOk Tryz.prog Tryz.f214 F214 = true := by kernel_rfl
theorem cf214 : CodeFor Tryz.prog 214 F214 := .of (F := Tryz.f214) Tryz.func214 ck214
theorem ck215 : funOk Tryz.prog Tryz.f215 F215 = true := by kernel_rfl
theorem cf215 : CodeFor Tryz.prog 215 F215 := .of (F := Tryz.f215) Tryz.func215 ck215
theorem ck216 : funOk Tryz.prog Tryz.f216 F216 = true := by kernel_rfl
theorem cf216 : CodeFor Tryz.prog 216 F216 := .of (F := Tryz.f216) Tryz.func216 ck216
theorem ck217 : funOk Tryz.prog Tryz.f217 F217 = true := by kernel_rfl
theorem cf217 : CodeFor Tryz.prog 217 F217 := .of (F := Tryz.f217) Tryz.func217 ck217
theorem ck218 : funOk Tryz.prog Tryz.f218 F218 = true := by kernel_rfl
theorem cf218 : CodeFor Tryz.prog 218 F218 := .of (F := Tryz.f218) Tryz.func218 ck218
theorem ck219 : funOk Tryz.prog Tryz.f219 F219 = true := by kernel_rfl
theorem cf219 : CodeFor Tryz.prog 219 F219 := .of (F := Tryz.f219) Tryz.func219 ck219
theorem ck220 : funOk Tryz.prog Tryz.f220 F220 = true := by kernel_rfl
theorem cf220 : CodeFor Tryz.prog 220 F220 := .of (F := Tryz.f220) Tryz.func220 ck220
theorem ck221 : funOk Tryz.prog Tryz.f221 F221 = true := by kernel_rfl
theorem cf221 : CodeFor Tryz.prog 221 F221 := .of (F := Tryz.f221) Tryz.func221 ck221
theorem ck222 : funOk Tryz.prog Tryz.f222 F222 = true := by kernel_rfl
theorem cf222 : CodeFor Tryz.prog 222 F222 := .of (F := Tryz.f222) Tryz.func222 ck222
theorem ck225 : funOk Tryz.prog Tryz.f225 F225 = true := by kernel_rfl
theorem cf225 : CodeFor Tryz.prog 225 F225 := .of (F := Tryz.f225) Tryz.func225 ck225
theorem ck226 : funOk Tryz.prog Tryz.f226 F226 = true := by kernel_rfl
theorem cf226 : CodeFor Tryz.prog 226 F226 := .of (F := Tryz.f226) Tryz.func226 ck226
theorem ck227 : funOk Tryz.prog Tryz.f227 F227 = true := by kernel_rfl
theorem cf227 : CodeFor Tryz.prog 227 F227 := .of (F := Tryz.f227) Tryz.func227 ck227
theorem ck228 : funOk Tryz.prog Tryz.f228 F228 = true := by kernel_rfl
theorem cf228 : CodeFor Tryz.prog 228 F228 := .of (F := Tryz.f228) Tryz.func228 ck228
theorem ck229 : funOk Tryz.prog Tryz.f229 F229 = true := by kernel_rfl
theorem cf229 : CodeFor Tryz.prog 229 F229 := .of (F := Tryz.f229) Tryz.func229 ck229
theorem ck230 : funOk Tryz.prog Tryz.f230 F230 = true := by kernel_rfl
theorem cf230 : CodeFor Tryz.prog 230 F230 := .of (F := Tryz.f230) Tryz.func230 ck230
theorem ck231 : funOk Tryz.prog Tryz.f231 F231 = true := by kernel_rfl
theorem cf231 : CodeFor Tryz.prog 231 F231 := .of (F := Tryz.f231) Tryz.func231 ck231
theorem ck232 : funOk Tryz.prog Tryz.f232 F232 = true := by kernel_rfl
theorem cf232 : CodeFor Tryz.prog 232 F232 := .of (F := Tryz.f232) Tryz.func232 ck232
theorem ck233 : funOk Tryz.prog Tryz.f233 F233 = true := by kernel_rfl
theorem cf233 : CodeFor Tryz.prog 233 F233 := .of (F := Tryz.f233) Tryz.func233 ck233
theorem ck234 : funOk Tryz.prog Tryz.f234 F234 = true := by kernel_rfl
theorem cf234 : CodeFor Tryz.prog 234 F234 := .of (F := Tryz.f234) Tryz.func234 ck234
theorem ck235 : funOk Tryz.prog Tryz.f235 F235 = true := by kernel_rfl
theorem cf235 : CodeFor Tryz.prog 235 F235 := .of (F := Tryz.f235) Tryz.func235 ck235
theorem ck236 : funOk Tryz.prog Tryz.f236 F236 = true := by kernel_rfl
theorem cf236 : CodeFor Tryz.prog 236 F236 := .of (F := Tryz.f236) Tryz.func236 ck236
theorem ck237 : funOk Tryz.prog Tryz.f237 F237 = true := by kernel_rfl
theorem cf237 : CodeFor Tryz.prog 237 F237 := .of (F := Tryz.f237) Tryz.func237 ck237
theorem ck238 : funOk Tryz.prog Tryz.f238 F238 = true := by kernel_rfl
theorem cf238 : CodeFor Tryz.prog 238 F238 := .of (F := Tryz.f238) Tryz.func238 ck238
theorem ck239 : funOk Tryz.prog Tryz.f239 F239 = true := by kernel_rfl
theorem cf239 : CodeFor Tryz.prog 239 F239 := .of (F := Tryz.f239) Tryz.func239 ck239
theorem ck240 : funOk Tryz.prog Tryz.f240 F240 = true := by kernel_rfl
theorem cf240 : CodeFor Tryz.prog 240 F240 := .of (F := Tryz.f240) Tryz.func240 ck240
end Go.Proofs.YtjlebgfbohihfaaGreat.Am
