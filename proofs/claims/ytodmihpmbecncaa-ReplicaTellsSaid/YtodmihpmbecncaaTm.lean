/-
  For law Tells: the walk of short, that a replica that asks or leads has a term of at least 1, and the memory of the law's loop. No condition.
-/
import Derived.Test.YtodmihpmbecncaaQl
namespace Go.Proofs.Ytodmihpmbecncaa
open Go.RowKit

/-! ### Plain -/
namespace M
def Lt1 (r : Rep) : Prop := r.role ≠ 0 → 1 ≤ r.hard.term
theorem lt1_vote {r : Rep} (m : Msg) (h : Lt1 r) : Lt1 (vote r m).1 := by
  unfold vote
  split
  · exact h
  · exact h
theorem lt1_voted {r : Rep} (m : Msg) (h : Lt1 r) : Lt1 (voted r m).1 := by
  unfold voted
  split
  · exact h
  · rename_i hn
    have h1 : r.role = 1 := Decidable.byContradiction fun q => hn (.inl q)
    simp only
    split
    · exact h
    · exact fun _ => h (by omega)
theorem lt1_append {r : Rep} (m : Msg) (h : Lt1 r) : Lt1 (append r m).1 := by
  unfold append
  simp only
  split
  · exact h
  split
  · exact h
  split
  · exact fun q => absurd rfl q
  split
  · split
    · exact fun q => absurd rfl q
    · exact fun q => absurd rfl q
  · exact fun q => absurd rfl q
theorem lt1_advance {r : Rep} (h : Lt1 r) : Lt1 (advance r) := by
  unfold advance
  simp only
  split
  · exact h
  · exact h
theorem lt1_appended {r : Rep} (m : Msg) (h : Lt1 r) : Lt1 (appended r m).1 := by
  unfold appended
  split
  · exact h
  simp only
  split
  · exact h
  · split
    · exact lt1_advance h
    · exact lt1_advance h
theorem lt1_toTerm {r : Rep} (m : Msg) (h : Lt1 r) : Lt1 (toTerm r m) := by
  unfold toTerm
  split
  · exact fun q => absurd rfl q
  · exact h
theorem lt1_hear {r : Rep} (m : Msg) (h : Lt1 r) : Lt1 (hear r m).1 := by
  cases hr : right r m
  · unfold hear; rw [if_pos hr]; exact h
  · rw [hear_eq r m hr]
    have h1 := lt1_toTerm m h
    show Lt1 (act (toTerm r m) m).1
    unfold act
    split
    · exact lt1_vote m h1
    split
    · exact lt1_voted m h1
    split
    · exact lt1_append m h1
    · exact lt1_appended m h1
theorem lt1_tick {r : Rep} (W : WF r) (h : Lt1 r) : Lt1 (tick r).1 := by
  unfold tick
  split
  · exact h
  split
  · exact h
  · intro _
    have := W.term0
    show 1 ≤ r.hard.term + 1
    omega
theorem lt1_propose {r : Rep} (d : ByteArray) (h : Lt1 r) : Lt1 (propose r d).1 := by
  unfold propose
  split
  · exact h
  split
  · exact h
  split
  · exact h
  · exact h
theorem all_len (r : Rep) : (all r).length = 2 := by unfold all; rw [List.length_map]; unfold others; split <;> (try split) <;> rfl
theorem act_send (r : Rep) (m : Msg) : (act r m).2.send.length ≤ 2 := by
  unfold act
  split
  · unfold vote; simp only; split <;> simp [answer]
  split
  · unfold voted
    split
    · simp [noOut]
    · simp only
      split
      · simp [noOut]
      · simp [all_len]
  split
  · unfold append
    simp only
    split
    · simp [answer]
    split
    · simp [noOut]
    split
    · simp [answer]
    split
    · split
      · simp [noOut]
      · simp
    · simp [answer]
  · unfold appended
    split
    · simp [noOut]
    · simp only
      split
      · simp [answer]
      · split
        · simp [answer]
        · simp [noOut]
theorem hear_send (r : Rep) (m : Msg) : (hear r m).2.send.length ≤ 2 := by
  cases hr : right r m
  · unfold hear; rw [if_pos hr]; simp [noOut]
  · rw [hear_eq r m hr]
    unfold saved
    simp only
    split <;> exact act_send _ _
theorem tick_send (r : Rep) : (tick r).2.send.length ≤ 2 := by
  unfold tick
  split
  · simp [all_len]
  split
  · simp [noOut]
  · simp only [List.length_map]
    unfold others
    split <;> (try split) <;> simp
theorem propose_send (r : Rep) (d : ByteArray) : (propose r d).2.2.2.send.length ≤ 2 := by
  unfold propose
  split
  · simp [noOut]
  split
  · simp [noOut]
  split
  · simp [noOut]
  · simp [all_len]
theorem lt1_new {id : Int} {h : Hard} {log : List Rec} {r : Rep} (e : new id h log = some r) : Lt1 r := by
  unfold new at e
  split at e
  · cases e; exact fun q => absurd rfl q
  · cases e
end M

/-! ### short -/
def shortB (l : List Rec) : Bool := l.all fun x => decide (x.data.size ≤ 2100)

set_option maxHeartbeats 800000 in
theorem short_calls {ok : Nat → Prop} {w : World} (l : List Rec) (v : Value) (hs : Sl w ok 2 v l.length (recsCells l)) :
    Calls Try.prog 20 #[v] w fun e w' => e = .returned (.bool (shortB l)) ∧ w = w' := by
  obtain ⟨lA, lc, rfl⟩ := Sl.form hs
  have hlen := hs.2.1
  have HS := Lib.hid hs
  clear hs
  go_enter Try.func20, Try.ntmps20
  go_wp2_with fail
  go_loop [3] (fun iv => ∃ k : Nat, iv = .int .i64 k ∧ k ≤ l.length ∧ ∀ j (hj : j < l.length), j < k → l[j].data.size ≤ 2100) (fun iv => l.length - (intOf iv).toNat)
  case atStart => exact ⟨0, rfl, Nat.zero_le _, fun j _ h => by omega⟩
  case round =>
    obtain ⟨k, rfl, hk, hall⟩ := hrel
    have HALL := Lib.hid hall
    clear hall
    by_cases hlt : k < l.length
    · obtain ⟨_, _, A', c', hA, hcap, hc63, h6⟩ := HS.out
      cases hA
      rcases h6 with h6 | ⟨b, off, rfl, _, hb, hc⟩
      · omega
      have hc3 := (recs_get hc k hlt).2
      have hltI : (k : Int) < (l.length : Int) := by omega
      clear hc
      by_cases h40 : l[k].data.size ≤ 2100
      · have h40I : ((l[k].data.size : Nat) : Int) ≤ 2100 := by omega
        go_wp2_with fail
        go_round
        case rel => exact ⟨k + 1, by go_num, by omega, fun j hj hjk => by
          by_cases e : j = k
          · subst e; exact h40
          · exact HALL.out j hj (by omega)⟩
        case measure => simp [intOf]; omega
      · have h40I : (2100 : Int) < ((l[k].data.size : Nat) : Int) := by omega
        go_wp2_with fail
        go_ret
        refine ⟨retb ?_, rfl⟩
        unfold shortB
        rw [eq_comm, List.all_eq_false]
        exact ⟨l[k], List.getElem_mem hlt, by simpa using h40⟩
    · have hgeI : (l.length : Int) ≤ (k : Int) := by omega
      go_wp2_with fail
      go_ret
      refine ⟨retb ?_, rfl⟩
      unfold shortB
      rw [eq_comm, List.all_eq_true]
      intro o ho
      obtain ⟨j, hj, rfl⟩ := List.getElem_of_mem ho
      exact decide_eq_true (HALL.out j hj (by omega))

/-! ### The memory of the loop -/
/-- The program's replica lies in br, the reference's in bq; both are r; nothing of either lies below B. -/
structure TlSt (B : Nat) (W : World) (br : Nat) (A : Option Addr) (cap : Nat) (bq : Nat) (A' : Option Addr) (cap' gv gn gm : Nat) (r : Rep) : Prop where
  rep : RepOk W br r A cap
  ref : QOk W bq r A' cap' gv gn gm
  sep : ∀ k, RepS br A k → ¬ QS bq A' gv gn gm k
  lowR : ∀ k, RepS br A k → B ≤ k
  lowQ : ∀ k, QS bq A' gv gn gm k → B ≤ k
  lt1 : M.Lt1 r

theorem RepOk.ltS {w : World} {b : Nat} {r : Rep} {A : Option Addr} {cap : Nat} (h : RepOk w b r A cap) {k : Nat} (hk : RepS b A k) : k < w.heap.size := by
  rcases hk with rfl | ⟨ad, e, rfl⟩
  · exact h.lt
  · exact h.rowLt ad e
theorem RepOk.not45 {w : World} {b : Nat} {r : Rep} {A : Option Addr} {cap : Nat} (h : RepOk w b r A cap) {k : Nat} (hk : RepS b A k) {T : TypeId} (hT : T ≠ 76 ∧ T ≠ 55) : ¬ Kind w k T := by
  rcases hk with rfl | ⟨ad, e, rfl⟩
  · exact fun q => q.ne h.kind hT.1 rfl
  · exact fun q => q.ne (own_kind h.own (k := ad.block) (by rw [e]; rfl)) hT.2 rfl

section
variable {B : Nat} {W W1 : World} {br : Nat} {A : Option Addr} {cap bq : Nat} {A' : Option Addr} {cap' gv gn gm : Nat} {r : Rep}
theorem TlSt.fr {S : Nat → Prop} (h : TlSt B W br A cap bq A' cap' gv gn gm r) (hf : Fr S W W1) (hS : ∀ k, S k → ¬ RepS br A k ∧ ¬ QS bq A' gv gn gm k) : TlSt B W1 br A cap bq A' cap' gv gn gm r :=
  { h with rep := h.rep.fr hf (fun k q e => (hS k e).1 q), ref := h.ref.fr hf (fun k q e => (hS k e).2 q) }
theorem TlSt.below (h : TlSt B W br A cap bq A' cap' gv gn gm r) (hb : Below W.heap.size W W1) : TlSt B W1 br A cap bq A' cap' gv gn gm r :=
  h.fr (S := fun _ => False) (Fr.of_below hb) (fun _ h => h.elim)
/-- A new block of a type that no replica has, below which all else is: it may be written. -/
theorem TlSt.kind (h : TlSt B W br A cap bq A' cap' gv gn gm r) {k : Nat} {T : TypeId} (hk : Kind W k T) (hT : T ≠ 76 ∧ T ≠ 55 ∧ T ≠ 67 ∧ T ≠ 4 ∧ T ≠ 3) : ¬ RepS br A k ∧ ¬ QS bq A' gv gn gm k :=
  ⟨fun q => h.rep.not45 q ⟨hT.1, hT.2.1⟩ hk, fun q => h.ref.not45 q ⟨hT.2.2.1, hT.2.1, hT.2.2.2.1, hT.2.2.2.2⟩ hk⟩

/-- Behind a call of the program's replica: the reference's is as before. -/
structure MidSt (B : Nat) (W0 W : World) (br : Nat) (A : Option Addr) (cap : Nat) (bq : Nat) (A' : Option Addr) (cap' gv gn gm : Nat) (r r2 : Rep) (o : Out) (rv sv : Value) : Prop where
  rep : RepOk W br r2 A cap
  ref : QOk W bq r A' cap' gv gn gm
  sep : ∀ k, RepS br A k → ¬ QS bq A' gv gn gm k
  lowR : ∀ k, RepS br A k → B ≤ k
  lowQ : ∀ k, QS bq A' gv gn gm k → B ≤ k
  ltQ : ∀ k, QS bq A' gv gn gm k → k < W0.heap.size
  out : OutOk W W0.heap.size o rv sv
  size : W0.heap.size ≤ W.heap.size
theorem TlSt.mid {r2 : Rep} {o : Out} {e : Ending} (h : TlSt B W br A cap bq A' cap' gv gn gm r) (ha : After W br A r2 o e W1) :
    ∃ A1 c1 rv sv, e = .returned (outVal o rv sv) ∧ MidSt B W W1 br A1 c1 bq A' cap' gv gn gm r r2 o rv sv ∧ Fr (RepS br A) W W1 := by
  obtain ⟨A1, c1, rv, sv, he, h1, h2, h3, h4⟩ := ha
  have hS : ∀ k, RepS br A1 k → RepS br A k ∨ W.heap.size ≤ k := by
    rintro k (q | ⟨ad, q, rfl⟩)
    · exact .inl (.inl q)
    · rcases h2 with h2 | h2
      · subst h2; exact .inl (.inr ⟨ad, q, rfl⟩)
      · exact .inr (h2 ad q).1
  have hBr : B ≤ W.heap.size := by have := h.lowR br (.inl rfl); have := h.rep.lt; omega
  refine ⟨A1, c1, rv, sv, he, ⟨h1, h.ref.fr h4 (fun k q e => h.sep k e q), fun k q q2 => ?_, fun k q => ?_, h.lowQ, fun k q => h.ref.ltS q, h3, h4.size⟩, h4⟩
  · rcases hS k q with q' | q'
    · exact h.sep k q' q2
    · have := h.ref.ltS q2; omega
  · rcases hS k q with q' | q'
    · exact h.lowR k q'
    · omega
theorem MidSt.fr {S : Nat → Prop} {W0 : World} {r2 : Rep} {o : Out} {rv sv : Value} (h : MidSt B W0 W br A cap bq A' cap' gv gn gm r r2 o rv sv) (hf : Fr S W W1) (hS : ∀ k, S k → Kind W k 45) : MidSt B W0 W1 br A cap bq A' cap' gv gn gm r r2 o rv sv :=
  { h with
    rep := h.rep.fr hf (fun k q e => h.rep.not45 q ⟨by decide, by decide⟩ (hS k e))
    ref := h.ref.fr hf (fun k q e => h.ref.not45 q ⟨by decide, by decide, by decide, by decide⟩ (hS k e))
    out := h.out.fr hf (by
      rintro k _ (q | q) e
      · exact q.ne (hS k e) (by decide) rfl
      · exact q.ne (hS k e) (by decide) rfl)
    size := Nat.le_trans h.size hf.size }
/-- Behind a call of the reference's. -/
theorem MidSt.fin {W0 : World} {r2 : Rep} {o : Out} {rv sv : Value} {e : Ending} (h : MidSt B W0 W br A cap bq A' cap' gv gn gm r r2 o rv sv) (hl : M.Lt1 r2) (ha : AfterQ W bq A' gv gn gm r2 o e W1) :
    ∃ A2 c2 gv2 gn2 gm2 rw sw, e = .returned (outVal o rw sw) ∧ TlSt B W1 br A cap bq A2 c2 gv2 gn2 gm2 r2 ∧ OutOk W1 W0.heap.size o rv sv ∧ OutOk W1 W.heap.size o rw sw ∧ Fr (QS bq A' gv gn gm) W W1 := by
  obtain ⟨A2, c2, gv2, gn2, gm2, rw, sw, he, h1, h2, h3, h4⟩ := ha
  have hBr : B ≤ W.heap.size := by have := h.lowR br (.inl rfl); have := h.rep.lt; omega
  refine ⟨A2, c2, gv2, gn2, gm2, rw, sw, he, ⟨h.rep.fr h4 (fun k q e => h.sep k q e), h1, fun k q q2 => ?_, h.lowR, fun k q => ?_, hl⟩, h.out.fr h4 (fun k q _ e => by have := h.ltQ k e; omega), h3, h4⟩
  · rcases h2 k q2 with q' | q'
    · exact h.sep k q q'
    · have := h.rep.ltS q; omega
  · rcases h2 k q with q' | q'
    · exact h.lowQ k q'
    · omega
end
end Go.Proofs.Ytodmihpmbecncaa
