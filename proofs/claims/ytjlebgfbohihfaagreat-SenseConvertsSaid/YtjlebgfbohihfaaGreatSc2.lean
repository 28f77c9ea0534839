/-
  SenseConverts, over the abstract machine: the law answers true for every base, base and number.
-/
import Derived.Test.YtjlebgfbohihfaaGreatGrW9
import Derived.Test.YtjlebgfbohihfaaGreatSc1
namespace Go.Proofs.YtjlebgfbohihfaaGreat.Am
open Go
set_option linter.unusedVariables false
set_option linter.unusedSimpArgs false

theorem c5 (f t x : Int) (hx : I32 x) : wpC T 5 [.c (.int .i64 f), .c (.int .i64 t), .c (.int .i32 x)] Hp.empty fun v _ => v = .c (.bool true) := by
  refine k_code (fn := F5) rfl rfl ?_
  simp [F5]
  refine k_call ?_
  simp
  refine c9 _ fun h1 => ?_
  simp
  refine k_call ?_
  simp
  refine c13 f t x hx _ _ ?_
  by_cases f1 : f < 1
  · have : ¬ inB f := by unfold inB; omega
    simp [this, f1]
  by_cases f3 : 3 < f
  · have : ¬ inB f := by unfold inB; omega
    simp [this, f1, f3]
  by_cases t1 : t < 1
  · have : ¬ inB t := by unfold inB; omega
    simp [this, f1, f3, t1]
  by_cases t3 : 3 < t
  · have : ¬ inB t := by unfold inB; omega
    simp [this, f1, f3, t1, t3]
  have hf : inB f := by unfold inB; omega
  have ht : inB t := by unfold inB; omega
  simp [hf, ht, f1, f3, t1, t3]
  refine k_call ?_
  simp
  refine c14 f t x hf ht hx _ _ ?_
  simp
end Go.Proofs.YtjlebgfbohihfaaGreat.Am
