/-
  What the layers' waking calls come to, reckoned by the kernel.
-/
import Derived.Test.YtjlebgfbohihfaaGreatCw1
namespace Go.Proofs.YtjlebgfbohihfaaGreat.Am
open Go
def lookB (r : CRes) : Option Bool := match r with
  | .ok (.c (.bool b)) _ => some b
  | _ => none
theorem lookB_of {r : CRes} (h : lookB r = some true) : ∃ h', r = .ok (.c (.bool true)) h' := by
  unfold lookB at h
  split at h
  · rename_i b h'
    simp only [Option.some.injEq] at h
    subst h
    exact ⟨h', rfl⟩
  · cases h
set_option maxRecDepth 100000 in
theorem wakes6 : lookB (callF TG 100000 6 [] Hp.empty) = some true := by kernel_rfl
theorem c6 (Q : CallQ) (hQ : ∀ h', Q (.c (.bool true)) h') : wpC T 6 [] Hp.empty Q := by
  obtain ⟨h', hr⟩ := lookB_of wakes6
  rw [callF_eq] at hr
  exact wpC_of hr (hQ h')
end Go.Proofs.YtjlebgfbohihfaaGreat.Am
