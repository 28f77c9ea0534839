/-
  CheckWords, over the abstract machine: the law answers true for every name and stage.
-/
import Derived.Test.YtjlebgfbohihfaaGreatGrW
namespace Go.Proofs.YtjlebgfbohihfaaGreat.Am
open Go
set_option linter.unusedVariables false
set_option linter.unusedSimpArgs false

theorem c3 (s : List UInt8) (t : Int) : wpC T 3 [.c (.str s), .c (.int .i64 t)] Hp.empty fun v _ => v = .c (.bool true) := by
  refine k_code (fn := F3) rfl rfl ?_
  simp [F3]
  refine k_call ?_
  simp
  refine c6 _ fun h1 => ?_
  simp
  refine k_call ?_
  simp
  refine c7 s t _ _ fun h2 hx2 => ?_
  obtain ⟨r, hr⟩ : ∃ r, bwOf s t = r := ⟨_, rfl⟩
  rw [hr]
  obtain ⟨u, b, z, ok⟩ := r
  simp [bwV]
  refine k_call ?_
  simp
  refine c8 s t _ _ fun h3 hx3 => ?_
  rw [hr]
  have hg := hx3.2 h2.next (by simp)
  simp at hg
  have hlt : h2.next < h3.next := by have := hx3.1; simp at this; omega
  simp [bwV, hg, fitAll, CK.fits, show ¬ (h2.next = h3.next) from by omega]
end Go.Proofs.YtjlebgfbohihfaaGreat.Am
