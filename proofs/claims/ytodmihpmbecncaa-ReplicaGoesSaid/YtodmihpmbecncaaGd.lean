/-
  The replicas' protocol goes on, part 4: what a leader does with answers; all its messages arrive. No condition; no program in it.
-/
import Derived.Test.YtodmihpmbecncaaGc
namespace Go.Proofs.Ytodmihpmbecncaa
namespace M

theorem peer_mem {p j : Nat} (hp : p < 3) (hj : j < 3) (h : j ≠ p) : (j : Int) ∈ others (p : Int) := by
  have h1 : p = 0 ∨ p = 1 ∨ p = 2 := by omega
  have h2 : j = 0 ∨ j = 1 ∨ j = 2 := by omega
  rcases h1 with rfl | rfl | rfl <;> rcases h2 with rfl | rfl | rfl <;> first | (exact absurd rfl h) | decide
theorem fold_ge (f : Int → Int) : ∀ (l : List Int) (a : Int), a ≤ l.foldl (fun t i => max t (f i)) a ∧ ∀ i ∈ l, f i ≤ l.foldl (fun t i => max t (f i)) a
  | [], a => ⟨Int.le_refl _, fun i h => by cases h⟩
  | x :: xs, a => by
    have ih := fold_ge f xs (max a (f x))
    refine ⟨by have := ih.1; show a ≤ xs.foldl _ (max a (f x)); omega, fun i hi => ?_⟩
    show f i ≤ xs.foldl _ (max a (f x))
    rcases List.mem_cons.1 hi with rfl | hi
    · have := ih.1; omega
    · exact ih.2 i hi
theorem fold_le (f : Int → Int) (N : Int) : ∀ (l : List Int) (a : Int), (∀ i ∈ l, f i ≤ N) → a ≤ N → l.foldl (fun t i => max t (f i)) a ≤ N
  | [], _, _, h => h
  | x :: xs, a, h1, h2 => fold_le f N xs (max a (f x)) (fun i hi => h1 i (List.mem_cons_of_mem _ hi)) (by have := h1 x List.mem_cons_self; omega)
/-- What advancing leaves, if a peer has all and the last entry is of the leader's term. -/
theorem advance_all {r : Rep} {p j : Nat} (W : WF r) (hr : r.role = 2) (hid : r.id = p) (hp : p < 3) (hj : j < 3) (hjp : j ≠ p) (hm : r.mtch.getD j 0 = r.log.length) (ht : tm r.log r.log.length = r.hard.term) : (advance r).commit = r.log.length := by
  have W' := advance_wf W hr
  have hN := W'.commitN
  rw [(advance_same r).1] at hN
  have hge := (fold_ge (fun i => r.mtch.getD i.toNat 0) (others r.id) 0).2 j (by rw [hid]; exact peer_mem hp hj hjp)
  rw [Int.toNat_natCast, hm] at hge
  have hle : (others r.id).foldl (fun t i => max t (r.mtch.getD i.toNat 0)) 0 ≤ r.log.length := fold_le (fun i => r.mtch.getD i.toNat 0) _ _ _ (fun i hi => by
    rw [hid] at hi
    have := others_range p hp i hi
    exact (W.mtchs hr i.toNat (by omega)).2) (Int.natCast_nonneg _)
  unfold advance at hN ⊢
  dsimp only at hN ⊢
  have hcN := W.commitN
  generalize (others r.id).foldl (fun t i => max t (r.mtch.getD i.toNat 0)) 0 = mo at *
  split at hN
  · rename_i hc
    rw [if_pos hc]
    have hN : mo ≤ r.log.length := hN
    show mo = _
    omega
  · rename_i hc
    rw [if_neg hc]
    have e : mo = r.log.length := by omega
    rw [e] at hc
    exact Decidable.byContradiction fun q => hc ⟨by omega, ht⟩

section
variable {p : Nat} {T : Int} {lg : List Rec} {R : Nat → Rep} {g : Gh} {j : Nat} {m : Msg} {ms : List Msg}
theorem rpl_right (L : Lead p T lg R) (I : Inv g R) (W : WF (R p)) (h : Rpl p T lg R j m) (hj : j < 3) (hjp : j ≠ p) : right (R p) m = true := by
  obtain ⟨s, i, y, h1, h2, rfl, h3, h4⟩ := h
  have t1 := L.t1 I
  have tM := W.termM
  have hl := W.len
  have p3 := L.p3
  rw [L.term] at tM
  rw [L.log] at hl
  have hi : i ≤ lg.length := by
    cases y
    · have := (h4 rfl).1; omega
    · have := h3 rfl; rw [List.length_take, List.length_drop] at this; omega
  have hid := (I.node p L.p3).id
  exact right_intro ⟨by show (0 : Int) ≤ 3; omega, by show (3 : Int) ≤ 3; omega⟩ (by rw [hid]) (by rw [hid]; show (j : Int) ≠ p; omega) ⟨by show (0 : Int) ≤ j; omega, by show (j : Int) ≤ 2; omega⟩ ⟨t1, tM⟩ ⟨by show (0 : Int) ≤ i; omega, by show (i : Int) ≤ 4000; omega⟩
    ⟨by show (0 : Int) ≤ 0; omega, by show (0 : Int) ≤ T; omega⟩ (fun _ => rfl) ⟨by show (0 : Int) ≤ 0; omega, by show (0 : Int) ≤ 4000; omega⟩ (by show 0 ≤ 8; omega) (by show (i : Int) + (0 : Nat) ≤ 4000; omega) rfl

/-- The leader hears an answer. -/
theorem rpl_step (L : Lead p T lg R) (N : Ns R (m :: ms) g) (h : Rpl p T lg R j m) (hj : j < 3) (hjp : j ≠ p) :
    ∃ r', (hear (R p) m).1 = r' ∧ Lead p T lg (up R p r') ∧ (∀ k, k < 3 → k ≠ j → r'.mtch.getD k 0 = (R p).mtch.getD k 0 ∧ r'.next.getD k 0 = (R p).next.getD k 0) ∧
      (tn lg lg.length = T → (∀ k, k < 3 → k ≠ p → (R p).mtch.getD k 0 = lg.length → (R p).commit = lg.length) → ∀ k, k < 3 → k ≠ p → r'.mtch.getD k 0 = lg.length → r'.commit = lg.length) ∧
      ((∃ m', (hear (R p) m).2.send = [m'] ∧ App p T lg (up R p r') j m' ∧ pot p lg (up R p r') j + 2 ≤ pot p lg R j) ∨
       ((hear (R p) m).2.send = [] ∧ r'.mtch.getD j 0 = lg.length ∧ r'.next.getD j 0 = lg.length + 1)) := by
  have I := N.inv
  have W := N.wf p L.p3
  have hr := rpl_right L I W h hj hjp
  obtain ⟨g', E, N'⟩ := N.deliver L.p3
  obtain ⟨e1, e2⟩ := hear_deed hr
  have hnm := L.nm j hj hjp
  obtain ⟨s0, hs0, _, hm0, hmN⟩ := L.s W hj
  obtain ⟨s, i, y, h1, h2, rfl, h3, h4⟩ := h
  have hb : bump (R p) ⟨3, j, p, T, i, 0, 0, y, []⟩ = R p := by
    unfold bump
    rw [if_neg (by rw [L.term]; show ¬ T < T; omega)]
  have hd : deed (R p) ⟨3, j, p, T, i, 0, 0, y, []⟩ = appended (R p) ⟨3, j, p, T, i, 0, 0, y, []⟩ := by
    unfold deed
    rw [if_neg (show ¬ (3 : Int) = 0 by decide), if_neg (show ¬ (3 : Int) = 1 by decide), if_neg (show ¬ (3 : Int) = 2 by decide)]
  rw [hb, hd] at e1 e2
  rw [e1] at N' ⊢
  rw [e2]
  have hil : i ≤ lg.length := by
    cases y
    · have := (h4 rfl).1; omega
    · have := h3 rfl; rw [List.length_take, List.length_drop] at this; omega
  have hj3 : j < (R p).next.length := by rw [W.nextN]; exact hj
  have hj3' : j < (R p).mtch.length := by rw [W.mtchN]; exact hj
  clear e1 e2 hb hd hr
  unfold appended at N' ⊢
  have hc : ¬ ((R p).role ≠ 2 ∨ T ≠ (R p).hard.term ∨ y = true ∧ ((R p).log.length : Int) < i) := by
    rintro (q | q | ⟨_, q⟩)
    · exact q L.role
    · exact q L.term.symm
    · rw [L.log] at q; omega
  rw [if_neg hc] at N' ⊢
  dsimp only at N' ⊢
  rw [Int.toNat_natCast] at N' ⊢
  cases y
  · -- refused
    rw [if_pos rfl] at N' ⊢
    obtain ⟨k1, k2⟩ := h4 rfl
    dsimp only at N' ⊢
    have hx : max ((R p).mtch.getD j 0 + 1) (min ((R p).next.getD j 0 - 1) ((i : Int) + 1)) = max ((R p).mtch.getD j 0) i + 1 := by omega
    rw [hx] at N' ⊢
    generalize hr' : ({ R p with next := (R p).next.set j (max ((R p).mtch.getD j 0) i + 1) } : Rep) = r' at N' ⊢
    have hL : Lead p T lg (up R p r') := by
      refine ⟨L.p3, ?_, ?_, ?_, fun k hk hkp => ?_⟩
      · rw [up_at, ← hr']; exact L.role
      · rw [up_at, ← hr']; exact L.term
      · rw [up_at, ← hr']; exact L.log
      · rw [up_at, ← hr']
        show (R p).mtch.getD k 0 + 1 ≤ ((R p).next.set j (max ((R p).mtch.getD j 0) i + 1)).getD k 0
        by_cases e : j = k
        · subst e; rw [getD_set_eq _ _ _ _ hj3]; omega
        · rw [getD_set_ne _ _ _ e]; exact L.nm k hk hkp
    refine ⟨r', rfl, hL, fun k hk hkj => ?_, fun _ hc k q1 q2 q3 => ?_, .inl ⟨_, rfl, ?_, ?_⟩⟩
    · rw [← hr']
      exact ⟨rfl, getD_set_ne _ _ _ (fun e => hkj e.symm)⟩
    · rw [← hr'] at q3 ⊢
      exact hc k q1 q2 q3
    · have := app_of hL N'.inv (N'.wf p L.p3) hj
      rw [up_at] at this
      exact this
    · unfold pot
      rw [up_at, ← hr']
      show 4 * ((lg.length : Int) - (R p).mtch.getD j 0) + 2 * (((R p).next.set j (max ((R p).mtch.getD j 0) i + 1)).getD j 0 - 1 - (R p).mtch.getD j 0) + 2 ≤ _
      rw [getD_set_eq _ _ _ _ hj3]
      omega
  · -- taken over
    rw [if_neg (by decide)] at N' ⊢
    have hi := h3 rfl
    have hlt8 : ((lg.drop s).take 8).length = min 8 (lg.length - s) := by rw [List.length_take, List.length_drop]
    have hx : max ((R p).mtch.getD j 0) (i : Int) = i := by omega
    rw [hx] at N' ⊢
    generalize hr1 : ({ R p with mtch := (R p).mtch.set j (i : Int), next := (R p).next.set j ((i : Int) + 1) } : Rep) = r1 at N' ⊢
    have hm1 : r1.mtch = (R p).mtch.set j (i : Int) := by rw [← hr1]
    have hn1 : r1.next = (R p).next.set j ((i : Int) + 1) := by rw [← hr1]
    have hl1 : r1.log = lg := by rw [← hr1]; exact L.log
    have ho1 : r1.role = 2 := by rw [← hr1]; exact L.role
    have ht1 : r1.hard.term = T := by rw [← hr1]; exact L.term
    have hid1 : r1.id = p := by rw [← hr1]; exact (I.node p L.p3).id
    obtain ⟨a1, a2, a3, a4, a5⟩ := advance_same r1
    have hmt : (advance r1).mtch = r1.mtch := by unfold advance; dsimp only; split <;> rfl
    have hL : Lead p T lg (up R p (advance r1)) := by
      refine ⟨L.p3, ?_, ?_, ?_, fun k hk hkp => ?_⟩
      · rw [up_at, a3]; exact ho1
      · rw [up_at, a4]; exact ht1
      · rw [up_at, a1]; exact hl1
      · rw [up_at, a2, hmt, hm1, hn1]
        by_cases e : j = k
        · subst e; rw [getD_set_eq _ _ _ _ hj3, getD_set_eq _ _ _ _ hj3']; omega
        · rw [getD_set_ne _ _ _ e, getD_set_ne _ _ _ e]; exact L.nm k hk hkp
    have W1 : WF r1 := by
      rw [← hr1]
      exact { W with
        mtchN := by simpa using W.mtchN
        nextN := by simpa using W.nextN
        nexts := fun _ k hk => getD3 (R p).next 0 j _ hj3 (fun t => 1 ≤ t ∧ t ≤ ((R p).log.length : Int) + 1) k (W.nexts L.role k hk) ⟨by omega, by rw [L.log]; omega⟩
        mtchs := fun _ k hk => getD3 (R p).mtch 0 j _ hj3' (fun t => 0 ≤ t ∧ t ≤ ((R p).log.length : Int)) k (W.mtchs L.role k hk) ⟨by omega, by rw [L.log]; omega⟩ }
    have hcm : tn lg lg.length = T → ∀ k, k < 3 → k ≠ p → (advance r1).mtch.getD k 0 = lg.length → (advance r1).commit = lg.length := fun hT k hk hkp q => by
      rw [hmt] at q
      have := advance_all W1 ho1 hid1 L.p3 hk hkp (by rw [hl1]; exact q) (by rw [hl1, ht1]; exact hT)
      rw [hl1] at this
      exact this
    by_cases hmore : (i : Int) + 1 ≤ ((advance r1).log.length : Int)
    · rw [if_pos hmore] at N' ⊢
      rw [a1, hl1] at hmore
      refine ⟨advance r1, rfl, hL, fun k hk hkj => ?_, fun hT _ => hcm hT, .inl ⟨_, rfl, ?_, ?_⟩⟩
      · rw [hmt, a2, hm1, hn1]
        exact ⟨getD_set_ne _ _ _ (fun e => hkj e.symm), getD_set_ne _ _ _ (fun e => hkj e.symm)⟩
      · have := app_of hL N'.inv (N'.wf p L.p3) hj
        rw [up_at] at this
        exact this
      · unfold pot
        rw [up_at, hmt, a2, hm1, hn1, getD_set_eq _ _ _ _ hj3, getD_set_eq _ _ _ _ hj3']
        omega
    · rw [if_neg hmore] at N' ⊢
      rw [a1, hl1] at hmore
      refine ⟨advance r1, rfl, hL, fun k hk hkj => ?_, fun hT _ => hcm hT, .inr ⟨rfl, ?_, ?_⟩⟩
      · rw [hmt, a2, hm1, hn1]
        exact ⟨getD_set_ne _ _ _ (fun e => hkj e.symm), getD_set_ne _ _ _ (fun e => hkj e.symm)⟩
      · rw [hmt, hm1, getD_set_eq _ _ _ _ hj3']; omega
      · rw [a2, hn1, getD_set_eq _ _ _ _ hj3]; omega
end
end M
end Go.Proofs.Ytodmihpmbecncaa
