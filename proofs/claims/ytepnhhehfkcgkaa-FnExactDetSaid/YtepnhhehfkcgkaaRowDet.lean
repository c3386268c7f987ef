/-
  For every argument the program's Det returns what the reference's returns, changes no argument, and shares no memory with it. No conditions.
-/
import Derived.Test.YtepnhhehfkcgkaaLawDet
import Derived.Test.YtepnhhehfkcgkaaOpen
import Derived.Test.YtepnhhehfkcgkaaOpenM
namespace Go.Proofs.Ytepnhhehfkcgkaa
open Go.ChangeShapes Go.WideShapes Go.ChangeAt Go.RowKit

set_option maxRecDepth 100000 in
theorem fnExactDet_lifted (os : Os) (started : os.Started) (H : Type) (enc : TypeId × Value → H) :
    ReturnsInHanded {} Try.checked os 4 .any (Rows.fnExactDetSpec.pre6 enc Try.prog Try.f4 Rows.fnExactDetRow.domain false) (Rows.fnExactDetSpec.post enc Try.prog Try.f4 false true false false) := by
  refine returnsInHanded_of_change (C := Try.checked) Try.own started (by kernel_rfl) Try.func4
    (ChangeSpec.witness6 (enc := enc) (C := Try.checked) false ⟨#[], #[.slice none 0 0], []⟩ 8 (by kernel_rfl) (by kernel_rfl) (by kernel_rfl) (by kernel_rfl)) ?_
  intro W base args ds gs before hval0 hW hcnd _
  have hval : ∀ (j : Nat) t v, Try.f4.params[j]? = some t → args[j]? = some v → Value.okWide Try.prog W .any base t v := hval0
  have hW' := hW
  obtain ⟨p, q, hA0, hV, rfl, hfz, hnd⟩ := hW
  have hA : DataW.TrodAll enc Try.prog W 0 (fun _ => true) true Try.f4.params.toList args.toList ds p := hA0
  have hK := hA
  rw [Try.params4] at hA hval
  obtain ⟨v0, d0, rfl, rfl, h0⟩ := trodAll_one hA
  obtain ⟨rfl, rfl⟩ := trodVars_none hV
  obtain ⟨A0', n0', c0', rfl⟩ := okWide_slice Try.underlying23 (hval 0 23 v0 rfl rfl)
  obtain ⟨m0, hm0⟩ := h0
  obtain ⟨A0, n0, c0, M0, he0, hn0, hs0⟩ := matrixAt (v := .slice A0' n0' c0') Try.underlying23 Try.underlying39 Try.underlying3 (by kernel_rfl) (by kernel_rfl) hm0
  rw [he0]
  simp only [List.append_nil] at hW'
  rw [he0] at hW' hK
  refine (law_Det A0 n0 c0 M0 W hn0 hs0).mono fun e W' ⟨he, hw⟩ => ?_
  subst he
  exact ⟨_, rfl, law_post Try.laidOut rfl hW' hK (by rw [Try.params4]; exact List.forall_mem_cons.2 ⟨⟨by kernel_rfl, of_decide_eq_true (by kernel_rfl)⟩, fun _ h => by cases h⟩) (by kernel_rfl) Try.underlying4 rfl rfl rfl hw⟩

theorem fnExactDet_holds : Rows.FnExactDetSaid :=
  OpenClaim.holds_of_wide 4 Try.f4 rfl rfl rfl rfl rfl rfl rfl ⟨rfl, rfl, rfl, rfl, rfl⟩ rfl rfl rfl rfl rfl (by kernel_rfl) Try.func4 (by kernel_rfl)
    (of_decide_eq_true (by kernel_rfl)) (by unfold Func.isWrapper; first | (rw [if_pos (by decide +kernel)]; kernel_rfl) | (rw [if_neg (by decide +kernel)]; exact ⟨rfl, rfl⟩))
    (fun os started H enc _ => fnExactDet_lifted os started H enc)
end Go.Proofs.Ytepnhhehfkcgkaa
