/-
  What the waking call of the layer sense comes to, reckoned by the kernel.
-/
import Derived.Test.YtjlebgfbohihfaaGreatGrW
namespace Go.Proofs.YtjlebgfbohihfaaGreat.Am
open Go
set_option maxRecDepth 100000 in
theorem wakes9 : lookB (callF TG 100000 9 [] Hp.empty) = some true := by kernel_rfl
theorem c9 (Q : CallQ) (hQ : ∀ h', Q (.c (.bool true)) h') : wpC T 9 [] Hp.empty Q := by
  obtain ⟨h', hr⟩ := lookB_of wakes9
  rw [callF_eq] at hr
  exact wpC_of hr (hQ h')
end Go.Proofs.YtjlebgfbohihfaaGreat.Am
