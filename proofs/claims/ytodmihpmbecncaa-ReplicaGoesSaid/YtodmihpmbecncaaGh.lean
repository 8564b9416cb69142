/-
  The replicas' protocol goes on, part 8: a replica of a term that is over learns the term of the others. No condition; no program in it.
-/
import Derived.Test.YtodmihpmbecncaaGg
namespace Go.Proofs.Ytodmihpmbecncaa
namespace M

/-- p follows in the greatest term; nobody's term has fallen. -/
def Down (p : Nat) (X : Int) (lo : Nat → Int) (R : Nat → Rep) : Prop := (∃ g, Ns R [] g) ∧ (R p).role ≠ 2 ∧ (R p).hard.term = X ∧ ∀ j, j < 3 → (R j).hard.term ≤ X ∧ lo j ≤ (R j).hard.term
/-- Sent by p in the term T, right. -/
def Out2 (p : Nat) (T : Int) (m : Msg) : Prop := ∃ j : Nat, j < 3 ∧ j ≠ p ∧ m.to = j ∧ m.fr = p ∧ m.term = T ∧ (m.kind = 0 ∨ m.kind = 2) ∧ ∀ r : Rep, r.id = j → right r m = true
def noM (k : Int) (p j : Nat) (t : Int) : Msg := ⟨k, j, p, t, 0, 0, 0, false, []⟩
theorem noM_right {k : Int} {p j : Nat} {t : Int} (hk : k = 1 ∨ k = 3) (ht : 1 ≤ t ∧ t ≤ 1099511627776) (hj : j < 3) (hjp : j ≠ p) {r : Rep} (hr : r.id = p) : right r (noM k p j t) = true :=
  right_intro ⟨by show 0 ≤ k; omega, by show k ≤ 3; omega⟩ (by rw [hr]; rfl) (by rw [hr]; show (j : Int) ≠ p; omega) ⟨by show (0 : Int) ≤ j; omega, by show (j : Int) ≤ 2; omega⟩ ht ⟨by show (0 : Int) ≤ 0; omega, by show (0 : Int) ≤ 4000; omega⟩
    ⟨by show (0 : Int) ≤ 0; omega, by show (0 : Int) ≤ t; omega⟩ (fun _ => rfl) ⟨by show (0 : Int) ≤ 0; omega, by show (0 : Int) ≤ 4000; omega⟩ (by show 0 ≤ 8; omega) (by show (0 : Int) + (0 : Nat) ≤ 4000; omega) rfl

section
variable {p j : Nat} {T : Int} {r : Rep} {m : Msg}
/-- A replica of a greater term refuses, and says so. -/
theorem high_step (hid : r.id = j) (hT : T < r.hard.term) (ht : m.term = T) (hf : m.fr = p) (hk : m.kind = 0 ∨ m.kind = 2) (hr : right r m = true) : (hear r m).1 = r ∧ (hear r m).2.send = [noM (m.kind + 1) p j r.hard.term] := by
  obtain ⟨e1, e2⟩ := hear_deed hr
  have hb : bump r m = r := by unfold bump; exact if_neg (by omega)
  rw [e1, e2, hb]
  unfold deed
  rcases hk with hk | hk
  · rw [if_pos hk]
    unfold vote
    dsimp only
    rw [if_neg (by rintro ⟨q, _⟩; omega)]
    refine ⟨rfl, ?_⟩
    show [message r 1 m.fr] = _
    unfold message noM
    rw [hid, hf, hk]; rfl
  · rw [if_neg (by omega), if_neg (by omega), if_pos hk]
    unfold append
    dsimp only
    rw [if_pos (by omega)]
    refine ⟨rfl, ?_⟩
    show [message r 3 m.fr] = _
    unfold message noM
    rw [hid, hf, hk]; rfl
theorem out_step (hf : m.fr = p) (hk : m.kind = 0 ∨ m.kind = 2) (hr : right r m = true) :
    (hear r m).1.hard.term = max r.hard.term m.term ∧ (hear r m).2.send.length ≤ 1 ∧ ∀ y ∈ (hear r m).2.send, y.to = p ∧ (y.kind = 1 ∨ y.kind = 3) ∧ y.term = max r.hard.term m.term := by
  obtain ⟨e1, e2⟩ := hear_deed hr
  have hb : (bump r m).hard.term = max r.hard.term m.term := by unfold bump; split <;> (try dsimp only) <;> omega
  rw [e1, e2, ← hb]
  generalize bump r m = r1
  unfold deed
  rcases hk with hk | hk
  · rw [if_pos hk]
    unfold vote
    dsimp only
    split
    · refine ⟨rfl, Nat.le_refl _, fun y hy => ?_⟩
      simp only [answer, List.mem_singleton] at hy
      subst hy
      exact ⟨hf, .inl rfl, rfl⟩
    · refine ⟨rfl, Nat.le_refl _, fun y hy => ?_⟩
      simp only [answer, List.mem_singleton] at hy
      subst hy
      exact ⟨hf, .inl rfl, rfl⟩
  · rw [if_neg (by omega), if_neg (by omega), if_pos hk]
    unfold append
    dsimp only
    have one : ∀ a : Msg, a.to = p → a.kind = 3 → a.term = r1.hard.term → ∀ y ∈ [a], y.to = p ∧ (y.kind = 1 ∨ y.kind = 3) ∧ y.term = r1.hard.term := fun a h1 h2 h3 y hy => by
      simp only [List.mem_singleton] at hy
      subst hy
      exact ⟨h1, .inr h2, h3⟩
    have none : ∀ y ∈ ([] : List Msg), y.to = p ∧ (y.kind = 1 ∨ y.kind = 3) ∧ y.term = r1.hard.term := fun y hy => by cases hy
    split
    · exact ⟨rfl, Nat.le_refl _, one _ hf rfl rfl⟩
    split
    · exact ⟨rfl, Nat.zero_le _, none⟩
    split
    · exact ⟨rfl, Nat.le_refl _, one _ hf rfl rfl⟩
    split
    · split
      · exact ⟨rfl, Nat.zero_le _, none⟩
      · exact ⟨rfl, Nat.le_refl _, one _ hf rfl rfl⟩
    · exact ⟨rfl, Nat.le_refl _, one _ hf rfl rfl⟩
/-- A follower hears an answer; or anybody one of a greater term. -/
theorem back_step (hk : m.kind = 1 ∨ m.kind = 3) (h : r.role = 0 ∨ r.hard.term < m.term) (hr : right r m = true) : (hear r m).1.role = 0 ∧ (hear r m).1.hard.term = max r.hard.term m.term ∧ (hear r m).2.send = [] := by
  obtain ⟨e1, e2⟩ := hear_deed hr
  have hb : (bump r m).hard.term = max r.hard.term m.term := by unfold bump; split <;> (try dsimp only) <;> omega
  have h0 : (bump r m).role = 0 := by
    unfold bump
    split
    · rfl
    · rename_i hc
      rcases h with h | h
      · exact h
      · exact absurd h hc
  rw [e1, e2, ← hb]
  generalize bump r m = r1 at h0 hb ⊢
  unfold deed
  rcases hk with hk | hk
  · rw [if_neg (by omega), if_pos hk]
    unfold voted
    rw [if_pos (.inl (by rw [h0]; decide))]
    exact ⟨h0, rfl, rfl⟩
  · rw [if_neg (by omega), if_neg (by omega), if_neg (by omega)]
    unfold appended
    rw [if_pos (.inl (by rw [h0]; decide))]
    exact ⟨h0, rfl, rfl⟩
end

/-- p follows; what is still in flight cannot bring about much. -/
structure Dd (p h : Nat) (T X : Int) (lo : Nat → Int) (R : Nat → Rep) (ms : List Msg) : Prop where
  p3 : p < 3
  h3 : h < 3
  hp : h ≠ p
  role : (R p).role = 0
  top : ∀ j, j < 3 → (R j).hard.term ≤ X ∧ lo j ≤ (R j).hard.term
  hX : (R h).hard.term = X
  lt : T < X
  x : ∀ m ∈ ms, Out2 p T m ∨ (m.to = p ∧ m.term ≤ X ∧ (m.kind = 1 ∨ m.kind = 3))
  H : (R p).hard.term = X ∨ (∃ m ∈ ms, m.to = h) ∨ (∃ m ∈ ms, m.to = p ∧ m.term = X ∧ ∀ r : Rep, r.id = p → right r m = true)
def wsum (p : Nat) (ms : List Msg) : Nat := (ms.map fun (m : Msg) => if m.to = (p : Int) then 1 else 2).sum
theorem wsum_append (p : Nat) (a b : List Msg) : wsum p (a ++ b) = wsum p a + wsum p b := by unfold wsum; simp
theorem wsum_len (p : Nat) : ∀ ms : List Msg, ms.length ≤ wsum p ms
  | [] => Nat.le_refl _
  | m :: ms => by
    have ih := wsum_len p ms
    unfold wsum at ih ⊢
    rw [List.map_cons, List.sum_cons, List.length_cons]
    split <;> omega
theorem wsum_to (p : Nat) : ∀ ms : List Msg, (∀ m ∈ ms, m.to = p) → wsum p ms = ms.length
  | [], _ => rfl
  | m :: ms, h => by
    have ih := wsum_to p ms (fun k hk => h k (List.mem_cons_of_mem _ hk))
    unfold wsum at ih ⊢
    rw [List.map_cons, List.sum_cons, List.length_cons, if_pos (h m List.mem_cons_self), ih]; omega

theorem dead_ends {p h : Nat} {T X : Int} {lo : Nat → Int} : ∀ (W : Nat) (R : Nat → Rep) (ms : List Msg) (g : Gh), W ≤ 100 → Dd p h T X lo R ms → Ns R ms g → wsum p ms ≤ W → Ends W R ms (Down p X lo) := by
  intro W
  induction W with
  | zero =>
    intro R ms g _ D N hw
    cases ms with
    | nil =>
      refine Ends.nil ⟨⟨g, N⟩, by rw [D.role]; decide, ?_, D.top⟩
      rcases D.H with q | ⟨m, hm, _⟩ | ⟨m, hm, _⟩
      · exact q
      · cases hm
      · cases hm
    | cons m ms => have := wsum_len p (m :: ms); simp at this; omega
  | succ W ih =>
    intro R ms g hW D N hw
    cases ms with
    | nil =>
      refine Ends.nil ⟨⟨g, N⟩, by rw [D.role]; decide, ?_, D.top⟩
      rcases D.H with q | ⟨m, hm, _⟩ | ⟨m, hm, _⟩
      · exact q
      · cases hm
      · cases hm
    | cons m ms =>
      have hlen := wsum_len p ms
      have hcons : wsum p (m :: ms) = (if m.to = (p : Int) then 1 else 2) + wsum p ms := by unfold wsum; rw [List.map_cons, List.sum_cons]
      rw [hcons] at hw
      rcases D.x m List.mem_cons_self with ⟨j, hj, hjp, hto, hf, ht, hk, hr⟩ | ⟨hto, ht, hk⟩
      · have hri := hr (R j) (N.inv.node j hj).id
        obtain ⟨o1, o2, o3⟩ := out_step hf hk hri
        obtain ⟨g', _, N'⟩ := N.deliver hj
        rw [if_neg (by rw [hto]; omega)] at hw
        have hsum := wsum_to p _ (fun y hy => (o3 y hy).1)
        have hhigh : j = h → (hear (R j) m).1 = R j ∧ (hear (R j) m).2.send = [noM (m.kind + 1) p j X] := fun e => by
          subst e
          have := high_step (N.inv.node j hj).id (by rw [D.hX]; exact D.lt) ht hf hk hri
          rw [D.hX] at this
          exact this
        refine Ends.cons hto hj rfl rfl (by omega) (ih _ _ g' (by omega) ?_ N' (by rw [wsum_append]; omega))
        have ep : ∀ r', up R j r' p = R p := fun r' => up_ne _ _ (fun e => hjp e.symm)
        refine ⟨D.p3, D.h3, D.hp, by rw [ep]; exact D.role, fun k hk' => ?_, ?_, D.lt, fun y hy => ?_, ?_⟩
        · by_cases e : k = j
          · subst e
            rw [up_at, o1]
            have := D.top k hk'
            have := D.lt
            omega
          · rw [up_ne _ _ e]; exact D.top k hk'
        · by_cases e : h = j
          · rw [← e, up_at, e, (hhigh e.symm).1, ← e]; exact D.hX
          · rw [up_ne _ _ e]; exact D.hX
        · rcases List.mem_append.1 hy with hy | hy
          · exact D.x y (List.mem_cons_of_mem _ hy)
          · obtain ⟨y1, y2, y3⟩ := o3 y hy
            refine .inr ⟨y1, ?_, y2⟩
            have := D.top j hj
            have := D.lt
            omega
        · rw [ep]
          rcases D.H with q | ⟨m', hm', q⟩ | ⟨m', hm', q1, q2, q3⟩
          · exact .inl q
          · rcases List.mem_cons.1 hm' with rfl | hm'
            · have e : j = h := by omega
              rw [(hhigh e).2]
              refine .inr (.inr ⟨_, List.mem_append.2 (.inr List.mem_cons_self), rfl, rfl, fun r hr' => ?_⟩)
              have hw1 := N.wf h D.h3
              have h1 := hw1.term0
              have h2 := hw1.termM
              rw [D.hX] at h1 h2
              have hmt := right_of hri
              refine noM_right (by omega) ⟨?_, h2⟩ hj hjp hr'
              have := D.lt
              omega
            · exact .inr (.inl ⟨m', List.mem_append.2 (.inl hm'), q⟩)
          · rcases List.mem_cons.1 hm' with rfl | hm'
            · omega
            · exact .inr (.inr ⟨m', List.mem_append.2 (.inl hm'), q1, q2, q3⟩)
      · rw [if_pos hto] at hw
        obtain ⟨g', _, N'⟩ := N.deliver D.p3
        have hstep : (hear (R p) m).1.role = 0 ∧ (hear (R p) m).2.send = [] ∧ (R p).hard.term ≤ (hear (R p) m).1.hard.term ∧ (hear (R p) m).1.hard.term ≤ X ∧ (right (R p) m = true → m.term ≤ (hear (R p) m).1.hard.term) := by
          have htop := (D.top p D.p3).1
          cases hri : right (R p) m
          · rw [hear_wrong hri]; exact ⟨D.role, rfl, Int.le_refl _, htop, fun e => by cases e⟩
          · obtain ⟨b1, b2, b3⟩ := back_step hk (.inl D.role) hri
            exact ⟨b1, b3, by omega, by omega, fun _ => by omega⟩
        obtain ⟨s1, s2, s3, s4, s5⟩ := hstep
        rw [s2] at N'
        refine Ends.cons hto D.p3 rfl s2 (by simp; omega) (ih _ _ g' (by omega) ?_ N' (by rw [List.append_nil]; omega))
        rw [List.append_nil]
        have ej : ∀ k r', k ≠ p → up R p r' k = R k := fun k r' e => up_ne _ _ e
        refine ⟨D.p3, D.h3, D.hp, by rw [up_at]; exact s1, fun k hk' => ?_, by rw [ej h _ D.hp]; exact D.hX, D.lt, fun y hy => D.x y (List.mem_cons_of_mem _ hy), ?_⟩
        · by_cases e : k = p
          · subst e; rw [up_at]; have := D.top k hk'; exact ⟨s4, by omega⟩
          · rw [ej k _ e]; exact D.top k hk'
        · rw [up_at]
          rcases D.H with q | ⟨m', hm', q⟩ | ⟨m', hm', q1, q2, q3⟩
          · exact .inl (by omega)
          · rcases List.mem_cons.1 hm' with rfl | hm'
            · have := D.hp; omega
            · exact .inr (.inl ⟨m', hm', q⟩)
          · rcases List.mem_cons.1 hm' with rfl | hm'
            · have := s5 (q3 (R p) (N.inv.node p D.p3).id)
              exact .inl (by omega)
            · exact .inr (.inr ⟨m', hm', q1, q2, q3⟩)
end M
end Go.Proofs.Ytodmihpmbecncaa
