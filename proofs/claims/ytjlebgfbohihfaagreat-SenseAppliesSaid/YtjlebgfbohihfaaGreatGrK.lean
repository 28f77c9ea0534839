/-
  The tables hold of the program.
-/
import Derived.Test.YtjlebgfbohihfaaGreatGrK1
import Derived.Test.YtjlebgfbohihfaaGreatGrK2
import Derived.Test.YtjlebgfbohihfaaGreatGrK3
import Derived.Test.YtjlebgfbohihfaaGreatGrK4
import Derived.Test.YtjlebgfbohihfaaGreatAmZ4
import Derived.Laws.StandIn
import Derived.Lib.Bytealg
namespace Go.Proofs.YtjlebgfbohihfaaGreat.Am
open Go Go.Proofs
set_option maxRecDepth 100000
theorem all_e {Q : Nat → AFn → Prop} : TT.All Q .e := trivial
theorem all_n {Q : Nat → AFn → Prop} {l r : TT} {k : Nat} {v : AFn} (hl : l.All Q) (h : Q k v) (hr : r.All Q) : TT.All Q (.n l k v r) := ⟨hl, h, hr⟩
theorem all_br {Q : Nat → AFn → Prop} {l r : TT} {k : Nat} {f : AFun} (hl : l.All Q) (h : Q k (.code f)) (hr : r.All Q) : TT.All Q (br l k f r) := ⟨hl, h, hr⟩
theorem all_lf {Q : Nat → AFn → Prop} {k : Nat} {f : AFun} (h : Q k (.code f)) : TT.All Q (lf k f) := ⟨trivial, h, trivial⟩
theorem two_args {ρ : Ren} {x y : Cell} {vals : Array Value} (h : All2 (VR ρ) [.c x, .c y] vals.toList) : ∃ u v, vals = #[u, v] ∧ VR ρ (.c x) u ∧ VR ρ (.c y) v := by
  match hv : vals.toList, h with
  | [u, v], hh => exact ⟨u, v, by rw [← Array.toArray_toList (xs := vals), hv], hh.1, hh.2.1⟩
theorem three_args {ρ : Ren} {x y z : Cell} {vals : Array Value} (h : All2 (VR ρ) [.c x, .c y, .c z] vals.toList) : ∃ u v w, vals = #[u, v, w] ∧ VR ρ (.c x) u ∧ VR ρ (.c y) v ∧ VR ρ (.c z) w := by
  match hv : vals.toList, h with
  | [u, v, w], hh => exact ⟨u, v, w, by rw [← Array.toArray_toList (xs := vals), hv], hh.1, hh.2.1, hh.2.2.1⟩
theorem sp223 : SpecFor Tryz.prog 223 specIndexByte := by
  intro ρ h w args vals hR hargs v h' hg
  unfold specIndexByte at hg
  split at hg
  · rename_i s n
    simp only [Option.some.injEq, Prod.mk.injEq] at hg
    obtain ⟨rfl, rfl⟩ := hg
    obtain ⟨x, y, rfl, hx, hy⟩ := two_args hargs
    have hx : x = .string ⟨s.toArray⟩ := hx
    have hy : y = .int .u8 n := hy
    subst hx; subst hy
    unfold CallR
    rw [run_callFunc_indexByte (fn := Tryz.f223) (by kernel_rfl) (by kernel_rfl) (by kernel_rfl) (by kernel_rfl) (by kernel_rfl), run_indexByte_string]
    exact ⟨ρ, _, rfl, rfl, Grow.refl _ _ _, hR⟩
  · cases hg
theorem sp187 : SpecFor Tryz.prog 187 specCount := by
  intro ρ h w args vals hR hargs v h' hg
  unfold specCount at hg
  split at hg
  · rename_i s n
    simp only [Option.some.injEq, Prod.mk.injEq] at hg
    obtain ⟨rfl, rfl⟩ := hg
    obtain ⟨x, y, rfl, hx, hy⟩ := two_args hargs
    have hx : x = .string ⟨s.toArray⟩ := hx
    have hy : y = .int .u8 n := hy
    subst hx; subst hy
    unfold CallR
    rw [run_callFunc_standIn (fn := Tryz.f187) (e := Extern.BytealgCount.count) (by kernel_rfl) (by kernel_rfl) (by kernel_rfl) (by kernel_rfl) (by kernel_rfl), Lib.run_countString]
    exact ⟨ρ, _, rfl, rfl, Grow.refl _ _ _, hR⟩
  · cases hg
theorem sp81 : SpecFor Tryz.prog 81 specAdd64 := by
  intro ρ h w args vals hR hargs v h' hg
  unfold specAdd64 at hg
  split at hg
  · rename_i x y c
    split at hg
    · rename_i hc
      simp only [Option.some.injEq, Prod.mk.injEq] at hg
      obtain ⟨rfl, rfl⟩ := hg
      obtain ⟨u, v, t, rfl, hx, hy, hz⟩ := three_args hargs
      have hx : u = .int .u64 x := hx
      have hy : v = .int .u64 y := hy
      have hz : t = .int .u64 c := hz
      subst hx; subst hy; subst hz
      unfold CallR
      rw [run_callFunc_standIn (fn := Tryz.f81) (e := add64Entry) (by kernel_rfl) (by kernel_rfl) (by kernel_rfl) (by kernel_rfl) (by kernel_rfl), run_add64 x y c hc.1 hc.2.1 hc.2.2.1 hc.2.2.2]
      exact ⟨ρ, _, rfl, ⟨_, rfl, ⟨rfl, rfl, trivial⟩⟩, Grow.refl _ _ _, hR⟩
    · cases hg
  · cases hg
theorem tabAllTB : TT.All (FnOk Tryz.prog) TB := (all_br (all_br (all_lf cf7) cf17 all_e) cf18 (all_br (all_lf cf296) cf309 all_e))
theorem tabTB : TabOk Tryz.prog TB.get := tabOk (by kernel_rfl) tabAllTB
theorem sp279 : SpecFor Tryz.prog 279 specMeans := spec_back tabTB 100000 (F := Tryz.f279) (Fb := Tryz.f309) Tryz.func279 (by kernel_rfl) Tryz.func309 (by kernel_rfl)
theorem tabAllTG : TT.All (FnOk Tryz.prog) TG := (all_br (all_n (all_br (all_br (all_br (all_br (all_br (all_br (all_lf cf3) cf4 all_e) cf5 (all_lf cf6)) cf7 (all_br (all_br (all_lf cf8) cf9 all_e) cf10 (all_lf cf11))) cf12 (all_br (all_br (all_br (all_lf cf13) cf14 all_e) cf15 (all_lf cf16)) cf17 (all_br (all_br (all_lf cf18) cf19 all_e) cf20 (all_lf cf21)))) cf22 (all_br (all_br (all_br (all_br (all_lf cf23) cf24 all_e) cf25 (all_lf cf26)) cf27 (all_br (all_br (all_lf cf28) cf29 all_e) cf30 (all_lf cf31))) cf32 (all_br (all_br (all_br (all_lf cf33) cf34 all_e) cf35 (all_lf cf36)) cf37 (all_br (all_br (all_lf cf38) cf39 all_e) cf40 (all_lf cf41))))) cf42 (all_br (all_br (all_br (all_br (all_br (all_lf cf43) cf44 all_e) cf45 (all_lf cf46)) cf47 (all_br (all_br (all_lf cf48) cf49 all_e) cf50 (all_lf cf51))) cf52 (all_br (all_br (all_br (all_lf cf53) cf54 all_e) cf55 (all_lf cf56)) cf57 (all_br (all_br (all_lf cf58) cf59 all_e) cf60 (all_lf cf61)))) cf62 (all_br (all_br (all_br (all_br (all_lf cf63) cf64 all_e) cf65 (all_lf cf66)) cf67 (all_br (all_br (all_lf cf68) cf69 all_e) cf70 (all_lf cf71))) cf72 (all_br (all_br (all_br (all_lf cf73) cf74 all_e) cf75 (all_lf cf76)) cf77 (all_br (all_lf cf78) cf79 (all_lf cf80)))))) sp81 (all_br (all_br (all_br (all_br (all_br (all_br (all_lf cf82) cf83 all_e) cf84 (all_lf cf85)) cf86 (all_br (all_br (all_lf cf87) cf88 all_e) cf89 (all_lf cf90))) cf91 (all_br (all_br (all_br (all_lf cf92) cf93 all_e) cf94 (all_lf cf95)) cf96 (all_br (all_br (all_lf cf97) cf98 all_e) cf99 (all_lf cf100)))) cf101 (all_br (all_br (all_br (all_br (all_lf cf102) cf103 all_e) cf104 (all_lf cf105)) cf106 (all_br (all_br (all_lf cf107) cf108 all_e) cf109 (all_lf cf110))) cf111 (all_br (all_br (all_br (all_lf cf112) cf113 all_e) cf114 (all_lf cf115)) cf116 (all_br (all_br (all_lf cf117) cf118 all_e) cf119 (all_lf cf120))))) cf121 (all_br (all_br (all_br (all_br (all_br (all_lf cf122) cf123 all_e) cf124 (all_lf cf125)) cf126 (all_br (all_br (all_lf cf127) cf128 all_e) cf129 (all_lf cf130))) cf131 (all_br (all_br (all_br (all_lf cf132) cf133 all_e) cf134 (all_lf cf135)) cf136 (all_br (all_br (all_lf cf137) cf138 all_e) cf139 (all_lf cf140)))) cf141 (all_br (all_br (all_br (all_br (all_lf cf142) cf143 all_e) cf144 (all_lf cf145)) cf146 (all_br (all_br (all_lf cf147) cf148 all_e) cf149 (all_lf cf150))) cf151 (all_br (all_br (all_br (all_lf cf152) cf153 all_e) cf154 (all_lf cf155)) cf156 (all_br (all_lf cf157) cf158 (all_lf cf159))))))) cf160 (all_br (all_br (all_br (all_br (all_br (all_br (all_br (all_lf cf161) cf162 all_e) cf163 (all_lf cf164)) cf165 (all_br (all_br (all_lf cf166) cf167 all_e) cf168 (all_lf cf169))) cf170 (all_br (all_br (all_br (all_lf cf171) cf172 all_e) cf173 (all_lf cf174)) cf175 (all_br (all_br (all_lf cf176) cf177 all_e) cf178 (all_lf cf179)))) cf180 (all_br (all_br (all_br (all_br (all_lf cf181) cf182 all_e) cf183 (all_lf cf184)) cf185 (all_br (all_n (all_lf cf186) sp187 all_e) cf188 (all_lf cf189))) cf190 (all_br (all_br (all_br (all_lf cf191) cf192 all_e) cf193 (all_lf cf194)) cf195 (all_br (all_br (all_lf cf196) cf197 all_e) cf198 (all_lf cf199))))) cf200 (all_br (all_br (all_br (all_br (all_br (all_lf cf201) cf202 all_e) cf203 (all_lf cf204)) cf205 (all_br (all_br (all_lf cf206) cf207 all_e) cf208 (all_lf cf209))) cf210 (all_br (all_br (all_br (all_lf cf211) cf212 all_e) cf213 (all_lf cf214)) cf215 (all_br (all_br (all_lf cf216) cf217 all_e) cf218 (all_lf cf219)))) cf220 (all_br (all_br (all_n (all_br (all_lf cf221) cf222 all_e) sp223 (all_lf cf225)) cf226 (all_br (all_br (all_lf cf227) cf228 all_e) cf229 (all_lf cf230))) cf231 (all_br (all_br (all_br (all_lf cf232) cf233 all_e) cf234 (all_lf cf235)) cf236 (all_br (all_lf cf237) cf238 (all_lf cf239)))))) cf240 (all_br (all_br (all_br (all_br (all_br (all_br (all_lf cf241) cf242 all_e) cf243 (all_lf cf244)) cf245 (all_br (all_br (all_lf cf246) cf247 all_e) cf248 (all_lf cf249))) cf250 (all_br (all_br (all_br (all_lf cf251) cf252 all_e) cf253 (all_lf cf254)) cf255 (all_br (all_br (all_lf cf256) cf257 all_e) cf258 (all_lf cf259)))) cf260 (all_br (all_br (all_br (all_br (all_lf cf261) cf262 all_e) cf263 (all_lf cf264)) cf265 (all_br (all_br (all_lf cf266) cf267 all_e) cf268 (all_lf cf269))) cf270 (all_br (all_br (all_br (all_lf cf271) cf272 all_e) cf273 (all_lf cf274)) cf275 (all_br (all_br (all_lf cf276) cf277 all_e) cf278 (all_n all_e sp279 all_e))))) cf280 (all_br (all_br (all_br (all_br (all_br (all_lf cf281) cf282 all_e) cf283 (all_lf cf284)) cf285 (all_br (all_br (all_lf cf286) cf287 all_e) cf288 (all_lf cf289))) cf290 (all_br (all_br (all_br (all_lf cf291) cf292 all_e) cf293 (all_lf cf294)) cf295 (all_br (all_br (all_lf cf296) cf297 all_e) cf298 (all_lf cf299)))) cf300 (all_br (all_br (all_br (all_br (all_lf cf301) cf302 all_e) cf303 (all_lf cf304)) cf305 (all_br (all_br (all_lf cf306) cf307 all_e) cf308 (all_lf cf309))) cf310 (all_br (all_br (all_br (all_lf cf311) cf312 all_e) cf313 (all_lf cf314)) cf315 (all_br (all_lf cf316) cf317 (all_lf cf318))))))))
theorem tabTG : TabOk Tryz.prog TG.get := tabOk (by kernel_rfl) tabAllTG
end Go.Proofs.YtjlebgfbohihfaaGreat.Am
