/-
  The replicas' protocol goes on, part 5: all that a leader has to say arrives, and then all have its log. No condition; no program in it.
-/
import Derived.Test.YtodmihpmbecncaaGd
namespace Go.Proofs.Ytodmihpmbecncaa
namespace M

/-- A message between the leader and replica j, and how much it can still bring about. -/
def Tk (p : Nat) (T : Int) (lg : List Rec) (R : Nat → Rep) (j : Nat) (m : Msg) (v : Int) : Prop :=
  (App p T lg R j m ∧ (R j).hard.term ≤ T ∧ v = pot p lg R j + 2) ∨ (Rpl p T lg R j m ∧ (R j).hard.term = T ∧ v = pot p lg R j + 1)
/-- Replica j has all. -/
def Done (p : Nat) (T : Int) (lg : List Rec) (R : Nat → Rep) (j : Nat) : Prop := (R p).mtch.getD j 0 = lg.length ∧ (R p).next.getD j 0 = lg.length + 1 ∧ (R j).hard.term = T
def Cm (p : Nat) (lg : List Rec) (R : Nat → Rep) : Prop := ∀ k, k < 3 → k ≠ p → (R p).mtch.getD k 0 = lg.length → (R p).commit = lg.length
/-- How it ends. -/
def Fin (p : Nat) (T : Int) (lg : List Rec) (F : Prop) (R : Nat → Rep) : Prop := (∃ g, Ns R [] g) ∧ Lead p T lg R ∧ (∀ j, j < 3 → j ≠ p → Done p T lg R j) ∧ (F → Cm p lg R)

section
variable {p : Nat} {T : Int} {lg : List Rec} {F : Prop} {R : Nat → Rep} {g : Gh} {j : Nat} {m : Msg} {ms : List Msg} {v : Int}
theorem Lead.far (L : Lead p T lg R) {i : Nat} (hi : i ≠ p) (r' : Rep) : Lead p T lg (up R i r') := by
  have e : up R i r' p = R p := up_ne _ _ (fun h => hi h.symm)
  exact ⟨L.p3, by rw [e]; exact L.role, by rw [e]; exact L.term, by rw [e]; exact L.log, fun j h1 h2 => by rw [e]; exact L.nm j h1 h2⟩
theorem pot_far {i : Nat} (hi : i ≠ p) (r' : Rep) (k : Nat) : pot p lg (up R i r') k = pot p lg R k := by
  have e : up R i r' p = R p := up_ne _ _ (fun h => hi h.symm)
  unfold pot; rw [e]
theorem App.far {i : Nat} (hi : i ≠ p) (r' : Rep) {k : Nat} (h : App p T lg R k m) : App p T lg (up R i r') k m := by
  have e : up R i r' p = R p := up_ne _ _ (fun h => hi h.symm)
  unfold App; rw [e]; exact h
theorem Rpl.far {i : Nat} (hi : i ≠ p) (r' : Rep) {k : Nat} (h : Rpl p T lg R k m) : Rpl p T lg (up R i r') k m := by
  have e : up R i r' p = R p := up_ne _ _ (fun h => hi h.symm)
  unfold Rpl; rw [e]; exact h
theorem Lead.pot0 (L : Lead p T lg R) (W : WF (R p)) (hj : j < 3) (hjp : j ≠ p) : 0 ≤ pot p lg R j := by
  obtain ⟨s, h1, h2, h3, h4⟩ := L.s W hj
  have := L.nm j hj hjp
  unfold pot; omega
theorem Tk.pos (h : Tk p T lg R j m v) (L : Lead p T lg R) (W : WF (R p)) (hj : j < 3) (hjp : j ≠ p) : 1 ≤ v := by
  have := L.pot0 W hj hjp
  rcases h with ⟨_, _, h⟩ | ⟨_, _, h⟩ <;> omega

theorem tk_step (hF : F → tn lg lg.length = T) (L : Lead p T lg R) (N : Ns R (m :: ms) g) (hC : F → Cm p lg R) (h : Tk p T lg R j m v) (hj : j < 3) (hjp : j ≠ p) :
    ∃ (i : Nat) (r' : Rep) (S : List Msg), m.to = (i : Int) ∧ i < 3 ∧ (hear (R i) m).1 = r' ∧ (hear (R i) m).2.send = S ∧ Lead p T lg (up R i r') ∧ (F → Cm p lg (up R i r')) ∧
      (∀ k m' v', k < 3 → k ≠ j → k ≠ p → Tk p T lg R k m' v' → Tk p T lg (up R i r') k m' v') ∧ (∀ k, k < 3 → k ≠ j → k ≠ p → Done p T lg R k → Done p T lg (up R i r') k) ∧
      ((∃ m' v', S = [m'] ∧ Tk p T lg (up R i r') j m' v' ∧ v' + 1 ≤ v) ∨ (S = [] ∧ Done p T lg (up R i r') j)) := by
  rcases h with ⟨hA, hle, hv⟩ | ⟨hA, hle, hv⟩
  · obtain ⟨a, h1, h2, h3, h4⟩ := app_step L N hA hj hjp hle
    have e : ∀ r', up R j r' p = R p := fun r' => up_ne _ _ (fun h => hjp h.symm)
    refine ⟨j, _, _, ?_, hj, rfl, h1, L.far hjp _, fun f => ?_, fun k m' v' hk hkj hkp ht => ?_, fun k hk hkj hkp hd => ?_, .inl ⟨a, pot p lg R j + 1, rfl, .inr ⟨h2.far hjp _, by rw [up_at]; exact h3, by rw [pot_far hjp]⟩, by omega⟩⟩
    · obtain ⟨s, c, _, _, _, _, rfl⟩ := hA
      rfl
    · have := hC f
      unfold Cm at this ⊢
      rw [e]; exact this
    · unfold Tk
      rw [pot_far hjp, up_ne _ _ hkj]
      exact ht.imp (fun ⟨a, b, c⟩ => ⟨a.far hjp _, b, c⟩) (fun ⟨a, b, c⟩ => ⟨a.far hjp _, b, c⟩)
    · unfold Done at hd ⊢
      rw [e, up_ne _ _ hkj]; exact hd
  · obtain ⟨r', h1, h2, h3, h4, h5⟩ := rpl_step L N hA hj hjp
    have ej : ∀ k, k ≠ p → up R p r' k = R k := fun k hk => up_ne _ _ hk
    refine ⟨p, r', _, ?_, L.p3, h1, rfl, h2, fun f => ?_, fun k m' v' hk hkj hkp ht => ?_, fun k hk hkj hkp hd => ?_, ?_⟩
    · obtain ⟨s, i, y, _, _, rfl, _⟩ := hA
      rfl
    · unfold Cm
      rw [up_at]
      exact h4 (hF f) (hC f)
    · obtain ⟨q1, q2⟩ := h3 k hk hkj
      have hp : pot p lg (up R p r') k = pot p lg R k := by unfold pot; rw [up_at, q1, q2]
      unfold Tk
      rw [hp, ej k hkp]
      refine ht.imp (fun ⟨a, b, c⟩ => ⟨?_, b, c⟩) (fun ⟨a, b, c⟩ => ⟨?_, b, c⟩)
      · unfold App at a ⊢; rw [up_at, q2]; exact a
      · unfold Rpl at a ⊢; rw [up_at, q1, q2]; exact a
    · obtain ⟨q1, q2⟩ := h3 k hk hkj
      unfold Done at hd ⊢
      rw [up_at, q1, q2, ej k hkp]; exact hd
    · rcases h5 with ⟨m', q1, q2, q3⟩ | ⟨q1, q2, q3⟩
      · exact .inl ⟨m', _, q1, .inl ⟨q2, by rw [ej j hjp]; omega, rfl⟩, by omega⟩
      · exact .inr ⟨q1, by unfold Done; rw [up_at, ej j hjp]; exact ⟨q2, q3, hle⟩⟩

theorem lead_ends (hF : F → tn lg lg.length = T) : ∀ (W : Nat) (a b : Nat) (R : Nat → Rep) (ms : List Msg) (g : Gh), a < 3 → b < 3 → a ≠ p → b ≠ p → a ≠ b → Lead p T lg R → Ns R ms g → (F → Cm p lg R) →
    ((∃ m m' v v', ms = [m, m'] ∧ Tk p T lg R a m v ∧ Tk p T lg R b m' v' ∧ v + v' ≤ W) ∨ (∃ m v, ms = [m] ∧ Tk p T lg R a m v ∧ v ≤ W ∧ Done p T lg R b) ∨ (ms = [] ∧ Done p T lg R a ∧ Done p T lg R b)) →
    Ends W R ms (Fin p T lg F) := by
  intro W
  induction W with
  | zero =>
    intro a b R ms g ha hb hap hbp hab L N hC h
    rcases h with ⟨m, m', v, v', rfl, h1, h2, h3⟩ | ⟨m, v, rfl, h1, h2, h3⟩ | ⟨rfl, h1, h2⟩
    · have := h1.pos L (N.wf p L.p3) ha hap
      have := h2.pos L (N.wf p L.p3) hb hbp
      omega
    · have := h1.pos L (N.wf p L.p3) ha hap
      omega
    · refine Ends.nil ⟨⟨g, N⟩, L, fun j hj hjp => ?_, hC⟩
      have : j = a ∨ j = b := by have := L.p3; omega
      rcases this with rfl | rfl
      · exact h1
      · exact h2
  | succ W ih =>
    intro a b R ms g ha hb hap hbp hab L N hC h
    rcases h with ⟨m, m', v, v', rfl, h1, h2, h3⟩ | ⟨m, v, rfl, h1, h2, h3⟩ | ⟨rfl, h1, h2⟩
    · obtain ⟨i, r', S, k1, k2, k3, k4, k5, k6, k7, k8, k9⟩ := tk_step hF L N hC h1 ha hap
      obtain ⟨g', E, N'⟩ := N.deliver k2
      rw [k3, k4] at N'
      rcases k9 with ⟨m2, v2, rfl, q1, q2⟩ | ⟨rfl, q1⟩
      · exact Ends.cons k1 k2 k3 k4 (by simp) (ih b a _ _ g' hb ha hbp hap (fun e => hab e.symm) k5 N' k6 (.inl ⟨m', m2, v', v2, rfl, k7 b m' v' hb (fun e => hab e.symm) hbp h2, q1, by omega⟩))
      · have := h1.pos L (N.wf p L.p3) ha hap
        exact Ends.cons k1 k2 k3 k4 (by simp) (ih b a _ _ g' hb ha hbp hap (fun e => hab e.symm) k5 N' k6 (.inr (.inl ⟨m', v', rfl, k7 b m' v' hb (fun e => hab e.symm) hbp h2, by omega, q1⟩)))
    · obtain ⟨i, r', S, k1, k2, k3, k4, k5, k6, k7, k8, k9⟩ := tk_step hF L N hC h1 ha hap
      obtain ⟨g', E, N'⟩ := N.deliver k2
      rw [k3, k4] at N'
      rcases k9 with ⟨m2, v2, rfl, q1, q2⟩ | ⟨rfl, q1⟩
      · exact Ends.cons k1 k2 k3 k4 (by simp) (ih a b _ _ g' ha hb hap hbp hab k5 N' k6 (.inr (.inl ⟨m2, v2, rfl, q1, by omega, k8 b hb (fun e => hab e.symm) hbp h3⟩)))
      · exact Ends.cons k1 k2 k3 k4 (by simp) (ih a b _ _ g' ha hb hap hbp hab k5 N' k6 (.inr (.inr ⟨rfl, q1, k8 b hb (fun e => hab e.symm) hbp h3⟩)))
    · refine Ends.nil ⟨⟨g, N⟩, L, fun j hj hjp => ?_, hC⟩
      have : j = a ∨ j = b := by have := L.p3; omega
      rcases this with rfl | rfl
      · exact h1
      · exact h2
end
end M
end Go.Proofs.Ytodmihpmbecncaa
