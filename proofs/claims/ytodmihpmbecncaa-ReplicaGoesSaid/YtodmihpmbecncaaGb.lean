/-
  The replicas' protocol goes on, part 2: messages that arrive one after the other until none is left. No condition; no program in it.
-/
import Derived.Test.YtodmihpmbecncaaGa
namespace Go.Proofs.Ytodmihpmbecncaa
namespace M

/-- The replicas and the messages in flight. -/
structure Ns (R : Nat → Rep) (ms : List Msg) (g : Gh) : Prop where
  inv : Inv g R
  wf : ∀ i, i < 3 → WF (R i)
  msg : ∀ m ∈ ms, MsgOk g m
theorem Ns.deliver {R : Nat → Rep} {m : Msg} {ms : List Msg} {g : Gh} (h : Ns R (m :: ms) g) {i : Nat} (hi : i < 3) :
    ∃ g', Ext g g' ∧ Ns (up R i (hear (R i) m).1) (ms ++ (hear (R i) m).2.send) g' := by
  obtain ⟨g', E, I', hm⟩ := hear_good h.inv hi (h.wf i hi) (h.msg m List.mem_cons_self)
  refine ⟨g', E, I', fun j hj => ?_, fun k hk => ?_⟩
  · by_cases e : j = i
    · subst e; rw [up_at]; exact hear_wf (h.wf j hj) m
    · rw [up_ne _ _ e]; exact h.wf j hj
  · rcases List.mem_append.1 hk with hk | hk
    · exact E.msg h.inv.gi (h.msg k (List.mem_cons_of_mem _ hk))
    · exact hm k hk

/-- Within k arrivals none is left, and then Q. -/
def Ends : Nat → (Nat → Rep) → List Msg → ((Nat → Rep) → Prop) → Prop
  | _, R, [], Q => Q R
  | 0, _, _ :: _, _ => False
  | k + 1, R, m :: ms, Q => 0 ≤ m.to ∧ m.to < 3 ∧ ms.length + (hear (R m.to.toNat) m).2.send.length ≤ 300 ∧
      Ends k (up R m.to.toNat (hear (R m.to.toNat) m).1) (ms ++ (hear (R m.to.toNat) m).2.send) Q
theorem Ends.nil {k : Nat} {R : Nat → Rep} {Q : (Nat → Rep) → Prop} (h : Q R) : Ends k R [] Q := by
  cases k <;> exact h
theorem Ends.cons {k i : Nat} {R : Nat → Rep} {m : Msg} {ms : List Msg} {Q : (Nat → Rep) → Prop} {r' : Rep} {S : List Msg} (hto : m.to = (i : Int)) (hi : i < 3) (h1 : (hear (R i) m).1 = r') (h2 : (hear (R i) m).2.send = S) (hl : ms.length + S.length ≤ 300)
    (h : Ends k (up R i r') (ms ++ S) Q) : Ends (k + 1) R (m :: ms) Q := by
  have e : m.to.toNat = i := by rw [hto]; rfl
  refine ⟨by omega, by omega, ?_, ?_⟩
  · rw [e, h2]; exact hl
  · rw [e, h1, h2]; exact h
theorem Ends.mono : ∀ {k n : Nat} {R : Nat → Rep} {ms : List Msg} {Q Q' : (Nat → Rep) → Prop}, Ends k R ms Q → k ≤ n → (∀ R, Q R → Q' R) → Ends n R ms Q'
  | k, n, R, [], Q, Q', h, _, hq => Ends.nil (hq R (by cases k <;> exact h))
  | 0, _, _, _ :: _, _, _, h, _, _ => h.elim
  | k + 1, n, R, m :: ms, Q, Q', h, hn, hq => by
    obtain ⟨n, rfl⟩ : ∃ n', n = n' + 1 := ⟨n - 1, by omega⟩
    exact ⟨h.1, h.2.1, h.2.2.1, Ends.mono h.2.2.2 (by omega) hq⟩

/-! ### The cluster -/
/-- All messages arrive, in order, at most n. -/
def flow : Nat → Cl → Cl
  | 0, x => x
  | n + 1, x => if x.sent.length = 0 then x else flow n (arrive x 0 false)
/-- A cluster in which nobody is about to crash. -/
structure Still (x : Cl) : Prop where
  pi : ∃ g, PInv x g
  wf : ∀ i, i < 3 → WF (Rf x i)
  stop : ∀ i, i < 3 → (x.s.getD i zSt).stop = 0
theorem done_still {x : Cl} {i : Nat} {r' : Rep} {o : Out} (hx : Still x) (hi : i < 3) (hg : ∃ g, PInv x g ∧ Good g (Rf x) i r' o) (hst : Stores (Rf x i) r' o) (hw : WF r') (hl : x.sent.length + o.send.length ≤ 300) :
    Still (done { x with r := x.r.set i r' } i o) ∧ Rf (done { x with r := x.r.set i r' } i o) = up (Rf x) i r' ∧ (done { x with r := x.r.set i r' } i o).sent = x.sent ++ o.send := by
  obtain ⟨g, P, hgd⟩ := hg
  have hr : i < x.r.length := by rw [P.rN]; exact hi
  have hs : i < x.s.length := by rw [P.sN]; exact hi
  have h0 := hx.stop i hi
  have hd : done { x with r := x.r.set i r' } i o = ⟨x.r.set i r', x.s.set i (kept (x.s.getD i zSt) o), x.sent ++ o.send⟩ := by
    unfold done
    dsimp only
    rw [if_neg (by rw [h0]; decide), if_neg (by rw [h0]; decide), List.take_of_length_le (by omega)]
  have hRf : Rf (⟨x.r.set i r', x.s.set i (kept (x.s.getD i zSt) o), x.sent ++ o.send⟩ : Cl) = up (Rf x) i r' := rf_set _ _ _ hr
  obtain ⟨g', _, P'⟩ := pinv_done P hi hgd hst
  rw [hd] at P' ⊢
  refine ⟨⟨⟨g', P'⟩, fun j hj => ?_, fun j hj => ?_⟩, hRf, rfl⟩
  · rw [hRf]
    by_cases e : j = i
    · subst e; rw [up_at]; exact hw
    · rw [up_ne _ _ e]; exact hx.wf j hj
  · show ((x.s.set i (kept (x.s.getD i zSt) o)).getD j zSt).stop = 0
    by_cases e : j = i
    · subst e; rw [getD_set_eq _ _ _ _ hs]; exact h0
    · rw [getD_set_ne _ _ _ (fun h => e h.symm)]; exact hx.stop j hj
theorem arrive_still {x : Cl} {m : Msg} {ms : List Msg} (hx : Still x) (hs : x.sent = m :: ms) {i : Nat} (hto : m.to = (i : Int)) (hi : i < 3) (hl : ms.length + (hear (Rf x i) m).2.send.length ≤ 300) :
    Still (arrive x 0 false) ∧ Rf (arrive x 0 false) = up (Rf x) i (hear (Rf x i) m).1 ∧ (arrive x 0 false).sent = ms ++ (hear (Rf x i) m).2.send := by
  obtain ⟨g, P⟩ := hx.pi
  have hk : (pick 0 (x.sent.length : Int)).toNat = 0 := by unfold pick; split <;> simp
  have hp : (pick m.to 3).toNat = i := by
    unfold pick; rw [if_neg (by decide), hto, Int.emod_eq_of_lt (by omega) (by omega)]; rfl
  have ha : arrive x 0 false = done { ({ x with sent := ms } : Cl) with r := x.r.set i (hear (Rf x i) m).1 } i (hear (Rf x i) m).2 := by
    unfold arrive
    rw [if_neg (by rw [hs]; simp), hk]
    have e1 : x.sent.getD 0 zMsg = m := by rw [hs]; rfl
    have e2 : x.sent.take 0 ++ x.sent.drop (0 + 1) = ms := by rw [hs]; rfl
    dsimp only
    rw [e1, e2, hp]
    rfl
  rw [ha]
  have hx' : Still { x with sent := ms } := ⟨⟨g, pinv_sub P fun k hk => by rw [hs]; exact List.mem_cons_of_mem _ hk⟩, hx.wf, hx.stop⟩
  have hm : MsgOk g m := P.msg m (by rw [hs]; exact List.mem_cons_self)
  exact done_still (x := { x with sent := ms }) hx' hi ⟨g, pinv_sub P fun k hk => by rw [hs]; exact List.mem_cons_of_mem _ hk, hear_good P.inv hi (hx.wf i hi) hm⟩ (hear_stores _ _) (hear_wf (hx.wf i hi) m) hl

theorem ends_flow : ∀ {k n : Nat} {x : Cl} {Q : (Nat → Rep) → Prop}, k ≤ n → Still x → Ends k (Rf x) x.sent Q → Still (flow n x) ∧ (flow n x).sent = [] ∧ Q (Rf (flow n x)) := by
  intro k
  induction k with
  | zero =>
    intro n x Q _ hx h
    cases hs : x.sent with
    | nil =>
      rw [hs] at h
      have hf : flow n x = x := by cases n with
        | zero => rfl
        | succ n => unfold flow; rw [if_pos (by rw [hs]; rfl)]
      rw [hf]
      exact ⟨hx, hs, h⟩
    | cons m ms => rw [hs] at h; exact h.elim
  | succ k ih =>
    intro n x Q hn hx h
    cases hs : x.sent with
    | nil =>
      rw [hs] at h
      have hf : flow n x = x := by cases n with
        | zero => rfl
        | succ n => unfold flow; rw [if_pos (by rw [hs]; rfl)]
      rw [hf]
      exact ⟨hx, hs, h⟩
    | cons m ms =>
      rw [hs] at h
      obtain ⟨h1, h2, h3, h4⟩ := h
      obtain ⟨i, hi⟩ := Int.eq_ofNat_of_zero_le h1
      have e : m.to.toNat = i := by rw [hi]; rfl
      rw [e] at h3 h4
      obtain ⟨n, rfl⟩ : ∃ n', n = n' + 1 := ⟨n - 1, by omega⟩
      obtain ⟨a1, a2, a3⟩ := arrive_still hx hs hi (by omega) h3
      have hf : flow (n + 1) x = flow n (arrive x 0 false) := by
        show (if x.sent.length = 0 then x else flow n (arrive x 0 false)) = _
        rw [if_neg (by rw [hs]; simp)]
      rw [hf]
      exact ih (by omega) a1 (by rw [a2, a3]; exact h4)
end M
end Go.Proofs.Ytodmihpmbecncaa
