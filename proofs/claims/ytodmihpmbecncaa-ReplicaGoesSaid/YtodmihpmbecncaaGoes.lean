/-
  ReplicaGoes: for every input the law returns true, and the input reads as it did. No condition.
-/
import Derived.Test.YtodmihpmbecncaaRows
import Derived.Test.YtodmihpmbecncaaLvH
import Derived.Test.YtodmihpmbecncaaRow
import Derived.OpenShut
namespace Go.Proofs.Ytodmihpmbecncaa
open Go.ChangeShapes Go.WideShapes Go.ChangeAt Go.RowKit

set_option maxRecDepth 100000 in
theorem goes_lifted (os : Os) (started : os.Started) (H : Type) (enc : TypeId × Value → H) :
    ReturnsInHanded {} Try.checked os 4 .any (Rows.replicaGoesSpec.pre6 enc Try.prog Try.f4 Rows.replicaGoesRow.domain false) (Rows.replicaGoesSpec.post enc Try.prog Try.f4 false true false false) := by
  refine returnsInHanded_of_change (C := Try.checked) Try.own started (by kernel_rfl) Try.func4
    (ChangeSpec.witness6 (enc := enc) (C := Try.checked) false ⟨#[], #[.slice none 0 0, .string ⟨#[]⟩], []⟩ 8 (by kernel_rfl) (by kernel_rfl) (by kernel_rfl) (by kernel_rfl)) ?_
  intro W base args ds gs before hval0 hW hcnd _
  have hval : ∀ (j : Nat) t v, Try.f4.params[j]? = some t → args[j]? = some v → Value.okWide Try.prog W .any base t v := hval0
  have hW' := hW
  obtain ⟨p, q, hA0, hV, rfl, hfz, hnd⟩ := hW
  have hA : DataW.TrodAll enc Try.prog W 0 (fun _ => true) true Try.f4.params.toList args.toList ds p := hA0
  rw [Try.params4] at hA hval
  obtain ⟨v0, vs0, d0, ds0, p0, q0, hargs, rfl, rfl, h0, r0⟩ := trodAll_cons hA
  obtain ⟨v1, vs1, d1, ds1, p1, q1, rfl, rfl, rfl, h1, r1⟩ := trodAll_cons r0
  obtain ⟨rfl, rfl, rfl⟩ := trodAll_nil r1
  obtain rfl : args = #[v0, v1] := by cases args; simp_all
  obtain ⟨rfl, rfl⟩ := trodVars_none hV
  obtain ⟨a0, len0, cap0, rfl⟩ := okWide_slice Try.underlying22 (hval 0 22 v0 rfl rfl)
  have k0 := h0
  have k1 := h1
  have lt1 : ∀ x ∈ p1, x.block < W.heap.size := by
    obtain ⟨m, hm⟩ := k1
    exact DataW.trod_lt m _ _ _ hm
  obtain ⟨sd, hsd⟩ := okWide_string Try.underlying9 (hval 1 9 v1 rfl rfl)
  subst hsd
  have hsz : sd.size ≤ 9223372036854775807 := by
    obtain ⟨m, hm⟩ := k1
    obtain ⟨s2, e, _, hz⟩ := DataW.trod_string Try.underlying9 hm
    have e2 : Value.string sd = Value.string s2 := by simpa [Value.cells] using e
    injection e2 with e2
    subst e2
    simp only [maxLen] at hz; exact hz
  have lt0 : ∀ x ∈ p0, x.block < W.heap.size := by
    obtain ⟨m, hm⟩ := k0
    exact DataW.trod_lt m _ _ _ hm
  obtain ⟨l, hl, hs, hd⟩ : ∃ l : List M.Op, l.length = len0 ∧ Sl W (fun _ => True) 4 (.slice a0 len0 cap0) l.length (opsCells l) ∧ ∀ o ∈ l, o.data.size ≤ 9223372036854775807 := by
    obtain ⟨m, hm⟩ := k0
    exact open_ops hm
  subst hl
  clear hA0 hval0
  refine (goes_calls l (.slice a0 l.length cap0) sd hs hd hsz).mono fun e W' ⟨he, bel⟩ => ?_
  subst he
  exact ⟨_, rfl, _, _, _, [], _, [], hW', trodAll_mk1 (shut_bool Try.underlying4 _), trodAll_cons_mk (Below.trod Try.laidOut (by kernel_rfl) (of_decide_eq_true (by kernel_rfl)) k0 bel lt0) (trodAll_mk1 (Below.trod Try.laidOut (by kernel_rfl) (of_decide_eq_true (by kernel_rfl)) k1 bel lt1)), rfl, bel.frame _, fun h => by cases h⟩

theorem goes_holds : Rows.ReplicaGoesSaid :=
  OpenClaim.holds_of_wide 4 Try.f4 rfl rfl rfl rfl rfl rfl rfl ⟨rfl, rfl, rfl, rfl, rfl⟩ rfl rfl rfl rfl rfl (by kernel_rfl) Try.func4 (by kernel_rfl)
    (of_decide_eq_true (by kernel_rfl)) (by unfold Func.isWrapper; first | (rw [if_pos (by decide +kernel)]; kernel_rfl) | (rw [if_neg (by decide +kernel)]; exact ⟨rfl, rfl⟩))
    (fun os started H enc _ => goes_lifted os started H enc)
#print axioms goes_holds
end Go.Proofs.Ytodmihpmbecncaa
