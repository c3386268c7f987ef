/-
  The drawn input of the law FnMatrixValid.
-/
import Derived.Test.YtepnhhehfkcgkaaDrawM
import Derived.Test.YtepnhhehfkcgkaaDrawV
namespace Go.Proofs.Ytepnhhehfkcgkaa
open Go.RowKit

set_option maxHeartbeats 1000000 in
theorem drawMV_any (A : Option Addr) (n c : Nat) (us : List Int) (w : World) (hn : n ≤ 9223372036854775807 ∧ n ≤ c) (h : Sl w A n (us.map (.int .u8))) (hu : ∀ u ∈ us, 0 ≤ u ∧ u ≤ 255) :
    Calls Try.prog 12 #[.slice A n c] w fun e w' => ∃ D k dc M, e = .returned (.slice D k dc) ∧ k ≤ dc ∧ k ≤ 7 ∧ Mx w' D k M ∧ (0 < k → ∃ b, D = some ⟨b, 0, none⟩) ∧ Below w.heap.size w w' := by
  go_enter Try.func12, Try.ntmps12
  go_wp2_with fail
  refine (open_any A n c us _ hn.1 hn.2 h hu).mono ?_; rintro e w1 ⟨he, ⟨n', us', hrd⟩, hb1, hs1⟩
  subst he
  go_wp2_with fail
  refine (matrix_any w.heap.size A n' c us' 0 2 _ hrd (by omega) ⟨by omega, by omega⟩ (by omega)).mono ?_; rintro e w2 ⟨D, k, dc, rfl, hkd, hk7, hM, hg⟩
  go_wp2_with fail
  go_ret
  obtain ⟨M, hM'⟩ := hM.mx
  obtain ⟨vs, o, -⟩ := hM
  exact ⟨D, k, dc, M, rfl, hkd, hk7, hM', fun h0 => by obtain ⟨b, hA, -, -⟩ := o.form h0; exact ⟨b, hA⟩, grown_below' hb1 hg (Nat.le_refl _) (by omega)⟩

end Go.Proofs.Ytepnhhehfkcgkaa
