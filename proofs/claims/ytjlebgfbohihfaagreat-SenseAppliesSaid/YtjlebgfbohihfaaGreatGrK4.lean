/-
  The abstract code of functions is the code of the program: 4.
-/
import Derived.Test.YtjlebgfbohihfaaGreatGrT
import Derived.Test.YtjlebgfbohihfaaGreatChecked
namespace Go.Proofs.YtjlebgfbohihfaaGreat.Am
open Go Go.Proofs
theorem ck241 : funOk Tryz.prog Tryz.f241 F241 = true := by kernel_rfl
theorem cf241 : CodeFor Tryz.prog 241 F241 := .of (F := Tryz.f241) Tryz.func241 ck241
theorem ck242 : funOk Tryz.prog Tryz.f242 F242 = true := by kernel_rfl
theorem cf242 : CodeFor Tryz.prog 242 F242 := .of (F := Tryz.f242) Tryz.func242 ck242
theorem ck243 : funOk Tryz.prog Tryz.f243 F243 = true := by kernel_rfl
theorem cf243 : CodeFor Tryz.prog 243 F243 := .of (F := Tryz.f243) Tryz.func243 ck243
theorem ck244 : funOk Tryz.prog Tryz.f244 F244 = true := by kernel_rfl
theorem cf244 : CodeFor Tryz.prog 244 F244 := .of (F := Tryz.f244) Tryz.func244 ck244
theorem ck245 : funOk Tryz.prog Tryz.f245 F245 = true := by kernel_rfl
theorem cf245 : CodeFor Tryz.prog 245 F245 := .of (F := Tryz.f245) Tryz.func245 ck245
theorem ck246 : funOk Tryz.prog Tryz.f246 F246 = true := by kernel_rfl
theorem cf246 : CodeFor Tryz.prog 246 F246 := .of (F := Tryz.f246) Tryz.func246 ck246
theorem ck247 : funOk Tryz.prog Tryz.f247 F247 = true := by kernel_rfl
theorem cf247 : CodeFor Tryz.prog 247 F247 := .of (F := Tryz.f247) Tryz.func247 ck247
theorem ck248 : funOk Tryz.prog Tryz.f248 F248 = true := by kernel_rfl
theorem cf248 : CodeFor Tryz.prog 248 F248 := .of (F := Tryz.f248) Tryz.func248 ck248
theorem ck249 : funOk Tryz.prog Tryz.f249 F249 = true := by kernel_rfl
theorem cf249 : CodeFor Tryz.prog 249 F249 := .of (F := Tryz.f249) Tryz.func249 ck249
theorem ck250 : funOk Tryz.prog Tryz.f250 F250 = true := by kernel_rfl
theorem cf250 : CodeFor Tryz.prog 250 F250 := .of (F := Tryz.f250) Tryz.func250 ck250
theorem ck251 : funOk Tryz.prog Tryz.f251 F251 = true := by kernel_rfl
theorem cf251 : CodeFor Tryz.prog 251 F251 := .of (F := Tryz.f251) Tryz.func251 ck251
theorem ck252 : funOk Tryz.prog Tryz.f252 F252 = true := by kernel_rfl
theorem cf252 : CodeFor Tryz.prog 252 F252 := .of (F := Tryz.f252) Tryz.func252 ck252
theorem ck253 : funOk Tryz.prog Tryz.f253 F253 = true := by kernel_rfl
theorem cf253 : CodeFor Tryz.prog 253 F253 := .of (F := Tryz.f253) Tryz.func253 ck253
theorem ck254 : funOk Tryz.prog Tryz.f254 F254 = true := by kernel_rfl
theorem cf254 : CodeFor Tryz.prog 254 F254 := .of (F := Tryz.f254) Tryz.func254 ck254
theorem ck255 : funOk Tryz.prog Tryz.f255 F255 = true := by kernel_rfl
theorem cf255 : CodeFor Tryz.prog 255 F255 := .of (F := Tryz.f255) Tryz.func255 ck255
theorem ck256 : funOk Tryz.prog Tryz.f256 F256 = true := by kernel_rfl
theorem cf256 : CodeFor Tryz.prog 256 F256 := .of (F := Tryz.f256) Tryz.func256 ck256
theorem ck257 : funOk Tryz.prog Tryz.f257 F257 = true := by kernel_rfl
theorem cf257 : CodeFor Tryz.prog 257 F257 := .of (F := Tryz.f257) Tryz.func257 ck257
theorem ck258 : funOk Tryz.prog Tryz.f258 F258 = true := by kernel_rfl
theorem cf258 : CodeFor Tryz.prog 258 F258 := .of (F := Tryz.f258) Tryz.func258 ck258
theorem ck259 : funOk Tryz.prog Tryz.f259 F259 = true := by kernel_rfl
theorem cf259 : CodeFor Tryz.prog 259 F259 := .of (F := Tryz.f259) Tryz.func259 ck259
theorem ck260 : funOk Tryz.prog Tryz.f260 F260 = true := by kernel_rfl
theorem cf260 : CodeFor Tryz.prog 260 F260 := .of (F := Tryz.f260) Tryz.func260 ck260
theorem ck261 : funOk Tryz.prog Tryz.f261 F261 = true := by kernel_rfl
theorem cf261 : CodeFor Tryz.prog 261 F261 := .of (F := Tryz.f261) Tryz.func261 ck261
theorem ck262 : funOk Tryz.prog Tryz.f262 F262 = true := by kernel_rfl
theorem cf262 : CodeFor Tryz.prog 262 F262 := .of (F := Tryz.f262) Tryz.func262 ck262
theorem ck263 : funOk Tryz.prog Tryz.f263 F263 = true := by kernel_rfl
theorem cf263 : CodeFor Tryz.prog 263 F263 := .of (F := Tryz.f263) Tryz.func263 ck263
theorem ck264 : funOk Tryz.prog Tryz.f264 F264 = true := by kernel_rfl
theorem cf264 : CodeFor Tryz.prog 264 F264 := .of (F := Tryz.f264) Tryz.func264 ck264
theorem ck265 : funOk Tryz.prog Tryz.f265 F265 = true := by kernel_rfl
theorem cf265 : CodeFor Tryz.prog 265 F265 := .of (F := Tryz.f265) Tryz.func265 ck265
theorem ck266 : funOk Tryz.prog Tryz.f266 F266 = true := by kernel_rfl
theorem cf266 : CodeFor Tryz.prog 266 F266 := .of (F := Tryz.f266) Tryz.func266 ck266
theorem ck267 : funOk Tryz.prog Tryz.f267 F267 = true := by kernel_rfl
theorem cf267 : CodeFor Tryz.prog 267 F267 := .of (F := Tryz.f267) Tryz.func267 ck267
theorem ck268 : funOk Tryz.prog Tryz.f268 F268 = true := by kernel_rfl
theorem cf268 : CodeFor Tryz.prog 268 F268 := .of (F := Tryz.f268) Tryz.func268 ck268
theorem ck269 : funOk Tryz.prog Tryz.f269 F269 = true := by kernel_rfl
theorem cf269 : CodeFor Tryz.prog 269 F269 := .of (F := Tryz.f269) Tryz.func269 ck269
theorem ck270 : funOk Tryz.prog Tryz.f270 F270 = true := by kernel_rfl
theorem cf270 : CodeFor Tryz.prog 270 F270 := .of (F := Tryz.f270) Tryz.func270 ck270
theorem ck271 : funOk Tryz.prog Tryz.f271 F271 = true := by kernel_rfl
theorem cf271 : CodeFor Tryz.prog 271 F271 := .of (F := Tryz.f271) Tryz.func271 ck271
theorem ck272 : funOk Tryz.prog Tryz.f272 F272 = true := by kernel_rfl
theorem cf272 : CodeFor Tryz.prog 272 F272 := .of (F := Tryz.f272) Tryz.func272 ck272
theorem ck273 : funOk Tryz.prog Tryz.f273 F273 = true := by kernel_rfl
theorem cf273 : CodeFor Tryz.prog 273 F273 := .of (F := Tryz.f273) Tryz.func273 ck273
theorem ck274 : funOk Tryz.prog Tryz.f274 F274 = true := by kernel_rfl
theorem cf274 : CodeFor Tryz.prog 274 F274 := .of (F := Tryz.f274) Tryz.func274 ck274
theorem ck275 : funOk Tryz.prog Tryz.f275 F275 = true := by kernel_rfl
theorem cf275 : CodeFor Tryz.prog 275 F275 := .of (F := Tryz.f275) Tryz.func275 ck275
theorem ck276 : funOk Tryz.prog Tryz.f276 F276 = true := by kernel_rfl
theorem cf276 : CodeFor Tryz.prog 276 F276 := .of (F := Tryz.f276) Tryz.func276 ck276
theorem ck277 : funOk Tryz.prog Tryz.f277 F277 = true := by kernel_rfl
theorem cf277 : CodeFor Tryz.prog 277 F277 := .of (F := Tryz.f277) Tryz.func277 ck277
theorem ck278 : funOk Tryz.prog Tryz.f278 F278 = true := by kernel_rfl
theorem cf278 : CodeFor Tryz.prog 278 F278 := .of (F := Tryz.f278) Tryz.func278 ck278
theorem ck280 : funOk Tryz.prog Tryz.f280 F280 = true := by kernel_rfl
theorem cf280 : CodeFor Tryz.prog 280 F280 := .of (F := Tryz.f280) Tryz.func280 ck280
theorem ck281 : funOk Tryz.prog Tryz.f281 F281 = true := by kernel_rfl
theorem cf281 : CodeFor Tryz.prog 281 F281 := .of (F := Tryz.f281) Tryz.func281 ck281
theorem ck282 : funOk Tryz.prog Tryz.f282 F282 = true := by kernel_rfl
theorem cf282 : CodeFor Tryz.prog 282 F282 := .of (F := Tryz.f282) Tryz.func282 ck282
theorem ck283 : funOk Tryz.prog Tryz.f283 F283 = true := by kernel_rfl
theorem cf283 : CodeFor Tryz.prog 283 F283 := .of (F := Tryz.f283) Tryz.func283 ck283
theorem ck284 : funOk Tryz.prog Tryz.f284 F284 = true := by kernel_rfl
theorem cf284 : CodeFor Tryz.prog 284 F284 := .of (F := Tryz.f284) Tryz.func284 ck284
theorem ck285 : funOk Tryz.prog Tryz.f285 F285 = true := by kernel_rfl
theorem cf285 : CodeFor Tryz.prog 285 F285 := .of (F := Tryz.f285) Tryz.func285 ck285
theorem ck286 : funOk Tryz.prog Tryz.f286 F286 = true := by kernel_rfl
theorem cf286 : CodeFor Tryz.prog 286 F286 := .of (F := Tryz.f286) Tryz.func286 ck286
theorem ck287 : funOk Tryz.prog Tryz.f287 F287 = true := by kernel_rfl
theorem cf287 : CodeFor Tryz.prog 287 F287 := .of (F := Tryz.f287) Tryz.func287 ck287
theorem ck288 : funOk Tryz.prog Tryz.f288 F288 = true := by kernel_rfl
theorem cf288 : CodeFor Tryz.prog 288 F288 := .of (F := Tryz.f288) Tryz.func288 ck288
theorem ck289 : funOk Tryz.prog Tryz.f289 F289 = true := by kernel_rfl
theorem cf289 : CodeFor Tryz.prog 289 F289 := .of (F := Tryz.f289) Tryz.func289 ck289
theorem ck290 : funOk Tryz.prog Tryz.f290 F290 = true := by kernel_rfl
theorem cf290 : CodeFor Tryz.prog 290 F290 := .of (F := Tryz.f290) Tryz.func290 ck290
theorem ck291 : funOk Tryz.prog Tryz.f291 F291 = true := by kernel_rfl
theorem cf291 : CodeFor Tryz.prog 291 F291 := .of (F := Tryz.f291) Tryz.func291 ck291
theorem ck292 : funOk Tryz.prog Tryz.f292 F292 = true := by kernel_rfl
theorem cf292 : CodeFor Tryz.prog 292 F292 := .of (F := Tryz.f292) Tryz.func292 ck292
theorem ck293 : funOk Tryz.prog Tryz.f293 F293 = true := by kernel_rfl
theorem cf293 : CodeFor Tryz.prog 293 F293 := .of (F := Tryz.f293) Tryz.func293 ck293
theorem ck294 : funOk Tryz.prog Tryz.f294 F294 = true := by kernel_rfl
theorem cf294 : CodeFor Tryz.prog 294 F294 := .of (F := Tryz.f294) Tryz.func294 ck294
theorem ck295 : funOk Tryz.prog Tryz.f295 F295 = true := by kernel_rfl
theorem cf295 : CodeFor Tryz.prog 295 F295 := .of (F := Tryz.f295) Tryz.func295 ck295
theorem ck296 : funOk Tryz.prog Tryz.f296 F296 = true := by kernel_rfl
theorem cf296 : CodeFor Tryz.prog 296 F296 := .of (F := Tryz.f296) Tryz.func296 ck296
theorem ck297 : funOk Tryz.prog Tryz.f297 F297 = true := by kernel_rfl
theorem cf297 : CodeFor Tryz.prog 297 F297 := .of (F := Tryz.f297) Tryz.func297 ck297
theorem ck298 : funOk Tryz.prog Tryz.f298 F298 = true := by kernel_rfl
theorem cf298 : CodeFor Tryz.prog 298 F298 := .of (F := Tryz.f298) Tryz.func298 ck298
theorem ck299 : funOk Tryz.prog Tryz.f299 F299 = true := by kernel_rfl
theorem cf299 : CodeFor Tryz.prog 299 F299 := .of (F := Tryz.f299) Tryz.func299 ck299
theorem ck300 : funOk Tryz.prog Tryz.f300 F300 = true := by kernel_rfl
theorem cf300 : CodeFor Tryz.prog 300 F300 := .of (F := Tryz.f300) Tryz.func300 ck300
theorem ck301 : funOk Tryz.prog Tryz.f301 F301 = true := by kernel_rfl
theorem cf301 : CodeFor Tryz.prog 301 F301 := .of (F := Tryz.f301) Tryz.func301 ck301
theorem ck302 : funOk Tryz.prog Tryz.f302 F302 = true := by kernel_rfl
theorem cf302 : CodeFor Tryz.prog 302 F302 := .of (F := Tryz.f302) Tryz.func302 ck302
theorem ck303 : funOk Tryz.prog Tryz.f303 F303 = true := by kernel_rfl
theorem cf303 : CodeFor Tryz.prog 303 F303 := .of (F := Tryz.f303) Tryz.func303 ck303
theorem ck304 : funOk Tryz.prog Tryz.f304 F304 = true := by kernel_rfl
theorem cf304 : CodeFor Tryz.prog 304 F304 := .of (F := Tryz.f304) Tryz.func304 ck304
theorem ck305 : funOk Tryz.prog Tryz.f305 F305 = true := by kernel_rfl
theorem cf305 : CodeFor Tryz.prog 305 F305 := .of (F := Tryz.f305) Tryz.func305 ck305
theorem ck306 : funOk Tryz.prog Tryz.f306 F306 = true := by kernel_rfl
theorem cf306 : CodeFor Tryz.prog 306 F306 := .of (F := Tryz.f306) Tryz.func306 ck306
theorem ck307 : funOk Tryz.prog Tryz.f307 F307 = true := by kernel_rfl
theorem cf307 : CodeFor Tryz.prog 307 F307 := .of (F := Tryz.f307) Tryz.func307 ck307
theorem ck308 : funOk Tryz.prog Tryz.f308 F308 = true := by kernel_rfl
theorem cf308 : CodeFor Tryz.prog 308 F308 := .of (F := Tryz.f308) Tryz.func308 ck308
theorem ck309 : funOk Tryz.prog Tryz.f309 F309 = true := by kernel_rfl
theorem cf309 : CodeFor Tryz.prog 309 F309 := .of (F := Tryz.f309) Tryz.func309 ck309
theorem ck310 : funOk Tryz.prog Tryz.f310 F310 = true := by kernel_rfl
theorem cf310 : CodeFor Tryz.prog 310 F310 := .of (F := Tryz.f310) Tryz.func310 ck310
theorem ck311 : funOk Tryz.prog Tryz.f311 F311 = true := by kernel_rfl
theorem cf311 : CodeFor Tryz.prog 311 F311 := .of (F := Tryz.f311) Tryz.func311 ck311
theorem ck312 : funOk Tryz.prog Tryz.f312 F312 = true := by kernel_rfl
theorem cf312 : CodeFor Tryz.prog 312 F312 := .of (F := Tryz.f312) Tryz.func312 ck312
theorem ck313 : funOk Tryz.prog Tryz.f313 F313 = true := by kernel_rfl
theorem cf313 : CodeFor Tryz.prog 313 F313 := .of (F := Tryz.f313) Tryz.func313 ck313
theorem ck314 : funOk Tryz.prog Tryz.f314 F314 = true := by kernel_rfl
theorem cf314 : CodeFor Tryz.prog 314 F314 := .of (F := Tryz.f314) Tryz.func314 ck314
theorem ck315 : funOk Tryz.prog Tryz.f315 F315 = true := by kernel_rfl
theorem cf315 : CodeFor Tryz.prog 315 F315 := .of (F := Tryz.f315) Tryz.func315 ck315
theorem ck316 : funOk Tryz.prog Tryz.f316 F316 = true := by kernel_rfl
theorem cf316 : CodeFor Tryz.prog 316 F316 := .of (F := Tryz.f316) Tryz.func316 ck316
theorem ck317 : funOk Tryz.prog Tryz.f317 F317 = true := by kernel_rfl
theorem cf317 : CodeFor Tryz.prog 317 F317 := .of (F := Tryz.f317) Tryz.func317 ck317
theorem ck318 : funOk Tryz.prog Tryz.f318 F318 = true := by kernel_rfl
theorem cf318 : CodeFor Tryz.prog 318 F318 := .of (F := Tryz.f318) Tryz.func318 ck318
end Go.Proofs.YtjlebgfbohihfaaGreat.Am
