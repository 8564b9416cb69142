/-
  Walks of the law's few, SameRecs, begins. No condition but sizes.
-/
import Derived.Test.YtodmihpmbecncaaClH
namespace Go.Proofs.Ytodmihpmbecncaa
open Go.RowKit

def opC (o : M.Op) : List Value := [.int .i64 o.what, .int .i64 o.who, .int .i64 o.n, .string o.data]
def opsCells (l : List M.Op) : List Value := l.flatMap opC
theorem opsCells_at : ∀ (xs : List M.Op) (i : Nat) (hi : i < xs.length), (opsCells xs)[i * 4]? = some (.int .i64 xs[i].what) ∧ (opsCells xs)[i * 4 + 1]? = some (.int .i64 xs[i].who) ∧ (opsCells xs)[i * 4 + 2]? = some (.int .i64 xs[i].n) ∧ (opsCells xs)[i * 4 + 3]? = some (.string xs[i].data) := by
  intro xs
  induction xs with
  | nil => intro i hi; simp at hi
  | cons x xs ih =>
    intro i hi
    cases i with
    | zero => exact ⟨rfl, rfl, rfl, rfl⟩
    | succ i =>
      have := ih i (by simpa using hi)
      simp only [opsCells, List.flatMap_cons, opC, List.cons_append, List.nil_append] at *
      rw [show (i + 1) * 4 = i * 4 + 1 + 1 + 1 + 1 from by omega]
      simpa using this
def fewB (l : List M.Op) (n : Nat) : Bool := l.all (fun o => decide (o.data.size ≤ 40)) && decide (l.length ≤ n)

theorem few_calls {ok : Nat → Prop} {w : World} (l : List M.Op) (v : Value) (n : Nat) (hs : Sl w ok 4 v l.length (opsCells l)) (hd : ∀ o ∈ l, o.data.size ≤ 9223372036854775807) :
    Calls Try.prog 10 #[v, .int .i64 n] w fun e w' => e = .returned (.bool (fewB l n)) ∧ w = w' := by
  obtain ⟨lA, lc, rfl⟩ := Sl.form hs
  have hlen := hs.2.1
  have HD := Lib.hid hd
  have HS := Lib.hid hs
  clear hs hd
  go_enter Try.func10, Try.ntmps10
  go_wp2_with fail
  go_loop [5] (fun iv => ∃ k : Nat, iv = .int .i64 k ∧ k ≤ l.length ∧ ∀ j (hj : j < l.length), j < k → l[j].data.size ≤ 40) (fun iv => l.length - (intOf iv).toNat)
  case atStart => exact ⟨0, rfl, Nat.zero_le _, fun j _ h => by omega⟩
  case round =>
    obtain ⟨k, rfl, hk, hall⟩ := hrel
    have HALL := Lib.hid hall
    clear hall
    by_cases hlt : k < l.length
    · obtain ⟨_, _, A', c', hA, hcap, hc63, h6⟩ := HS.out
      cases hA
      rcases h6 with h6 | ⟨b, off, rfl, _, hb, hc⟩
      · omega
      have hc3 := hc _ _ (opsCells_at l k hlt).2.2.2
      rw [← Nat.add_assoc] at hc3
      have hdd := HD.out l[k] (List.getElem_mem hlt)
      have hltI : (k : Int) < (l.length : Int) := by omega
      have HC := Lib.hid hc
      clear hc
      by_cases h40 : l[k].data.size ≤ 40
      · have h40I : ((l[k].data.size : Nat) : Int) ≤ 40 := by omega
        go_wp2_with fail
        go_round
        case rel => exact ⟨k + 1, by go_num, by omega, fun j hj hjk => by
          by_cases e : j = k
          · subst e; exact h40
          · exact HALL.out j hj (by omega)⟩
        case measure => simp [intOf]; omega
      · have h40I : (40 : Int) < ((l[k].data.size : Nat) : Int) := by omega
        go_wp2_with fail
        go_ret
        refine ⟨retb ?_, rfl⟩
        unfold fewB
        rw [eq_comm, Bool.and_eq_false_iff]
        left
        rw [List.all_eq_false]
        exact ⟨l[k], List.getElem_mem hlt, by simpa using h40⟩
    · have hgeI : (l.length : Int) ≤ (k : Int) := by omega
      go_wp2_with fail
      go_ret
      refine ⟨retb ?_, rfl⟩
      unfold fewB
      have : l.all (fun o => decide (o.data.size ≤ 40)) = true := by
        rw [List.all_eq_true]
        intro o ho
        obtain ⟨j, hj, rfl⟩ := List.getElem_of_mem ho
        exact decide_eq_true (HALL.out j hj (by omega))
      rw [this, Bool.true_and]

theorem bytes_ne {a b : ByteArray} (h : a ≠ b) : (a.toList == b.toList) = false := by
  rw [beq_eq_false_iff_ne]
  intro e
  rw [ByteArray.toList_eq, ByteArray.toList_eq] at e
  obtain ⟨a⟩ := a
  obtain ⟨b⟩ := b
  exact h (by simpa using e)
def sameB (a b : List Rec) : Bool := decide (a = b)
theorem sameB_ne {a b : List Rec} (h : a ≠ b) : sameB a b = false := decide_eq_false h
theorem sameB_eq {a b : List Rec} (h : a = b) : sameB a b = true := decide_eq_true h

set_option maxHeartbeats 800000 in
theorem same_calls {ok ok' : Nat → Prop} {w : World} (a b : List Rec) (va vb : Value) (ha : Sl w ok 2 va a.length (recsCells a)) (hb : Sl w ok' 2 vb b.length (recsCells b)) :
    Calls Try.prog 18 #[va, vb] w fun e w' => e = .returned (.bool (sameB a b)) ∧ Below w.heap.size w w' := by
  obtain ⟨aA, ac, rfl⟩ := Sl.form ha
  obtain ⟨bA, bc, rfl⟩ := Sl.form hb
  have hla := ha.2.1
  have hlb := hb.2.1
  have HA := Lib.hid ha
  have HB := Lib.hid hb
  clear ha hb
  by_cases hl : a.length = b.length
  · have q0 : ((a.length : Int) != (b.length : Int)) = false := by simp [hl]
    have HL := Lib.hid hl
    clear hl
    go_enter Try.func18, Try.ntmps18
    go_wp2_with fail
    go_loopw [5] (fun iv wr => ∃ k : Nat, iv = .int .i64 k ∧ k ≤ a.length ∧ Below w.heap.size w wr ∧ a.take k = b.take k) (fun iv _ => a.length - (intOf iv).toNat)
    case atStart => exact ⟨0, rfl, Nat.zero_le _, Below.refl _ _, rfl⟩
    case round =>
      obtain ⟨k, rfl, hk, hbw, htk⟩ := hrel
      have HTK := Lib.hid htk
      have HBW := Lib.hid hbw
      clear htk hbw
      have h1 := HA.out.below HBW.out (Nat.le_refl _)
      have h2 := HB.out.below HBW.out (Nat.le_refl _)
      by_cases hlt : k < a.length
      · have hltI : (k : Int) < (a.length : Int) := by omega
        have hlb2 : k < b.length := by have := HL.out; omega
        have hlbI : (k : Int) < (b.length : Int) := by omega
        obtain ⟨_, _, A', c', hA, hcap, hc63, h6⟩ := h1
        cases hA
        obtain ⟨_, _, A', c', hA, hcap', hc63', h6'⟩ := h2
        cases hA
        rcases h6 with h6 | ⟨ba, oa, rfl, _, hba, hca⟩
        · omega
        rcases h6' with h6' | ⟨bb, ob, rfl, _, hbb, hcb⟩
        · omega
        have ya := recsCells_at a k hlt
        have yb := recsCells_at b k hlb2
        have x0 := hca _ _ ya.1
        have x1 := hca _ _ ya.2
        have z0 := hcb _ _ yb.1
        have z1 := hcb _ _ yb.2
        rw [← Nat.add_assoc] at x1 z1
        clear ya yb hca hcb
        generalize hak : a[k] = ra at x0 x1
        generalize hbk : b[k] = rb at z0 z1
        obtain ⟨t1, d1⟩ := ra
        obtain ⟨t2, d2⟩ := rb
        dsimp only at x0 x1 z0 z1
        have HAK := Lib.hid hak
        have HBK := Lib.hid hbk
        clear hak hbk
        go_upto_region 6 with fail
        by_cases ht : t1 = t2
        · by_cases hd : d1 = d2
          · subst ht
            subst hd
            go_quiet (fail)
            go_wp2_with fail
            go_roundw
            case rel =>
              refine ⟨k + 1, by go_num, by omega, HBW.out.trans ((below_drewN (Below.refl _ _) _).mono HBW.out.size), ?_⟩
              rw [List.take_succ_eq_append_getElem hlt, List.take_succ_eq_append_getElem hlb2, HTK.out, HAK.out, HBK.out]
            case measure => simp [intOf]; omega
          · have e2 : (d1.toList == d2.toList) = false := bytes_ne hd
            have hne : a ≠ b := fun e => hd (by
              subst e
              have := HAK.out.symm.trans HBK.out
              injection this)
            have HNE := Lib.hid hne
            subst ht
            clear hne
            go_quiet (fail)
            go_wp2_with fail
            go_ret
            exact ⟨retb (sameB_ne HNE.out).symm, HBW.out.trans ((below_drewN (Below.refl _ _) _).mono HBW.out.size)⟩
        · have e1 : (t1 == t2) = false := by simp [ht]
          have hne : a ≠ b := fun e => ht (by
            subst e
            have := HAK.out.symm.trans HBK.out
            injection this)
          have HNE := Lib.hid hne
          clear ht hne
          go_quiet (fail)
          go_wp2_with fail
          go_ret
          exact ⟨retb (sameB_ne HNE.out).symm, HBW.out.trans ((below_drewN (Below.refl _ _) _).mono HBW.out.size)⟩
      · have hgeI : (a.length : Int) ≤ (k : Int) := by omega
        go_wp2_with fail
        go_ret
        refine ⟨retb (sameB_eq ?_).symm, HBW.out⟩
        have := HTK.out
        have hlq := HL.out
        rw [List.take_of_length_le (by omega), List.take_of_length_le (by omega)] at this
        exact this
  · have q0 : ((a.length : Int) != (b.length : Int)) = true := by simp; omega
    have hne : a ≠ b := fun e => hl (by rw [e])
    clear hl
    go_enter Try.func18, Try.ntmps18
    go_wp2_with fail
    go_ret
    exact ⟨retb (sameB_ne hne).symm, Below.refl _ _⟩

def beginsB (a b : List Rec) : Bool := sameB (a.take (min a.length b.length)) (b.take (min a.length b.length))
set_option maxHeartbeats 800000 in
theorem begins_calls {ok ok' : Nat → Prop} {w : World} (a b : List Rec) (va vb : Value) (ha : Sl w ok 2 va a.length (recsCells a)) (hb : Sl w ok' 2 vb b.length (recsCells b)) :
    Calls Try.prog 29 #[va, vb] w fun e w' => e = .returned (.bool (beginsB a b)) ∧ Below w.heap.size w w' := by
  obtain ⟨aA, ac, rfl⟩ := Sl.form ha
  obtain ⟨bA, bc, rfl⟩ := Sl.form hb
  have hla := ha.2.1
  have hlb := hb.2.1
  have hP : ∃ P : Int, P = min (a.length : Int) (b.length : Int) := ⟨_, rfl⟩
  obtain ⟨P, hP⟩ := hP
  have hPn : P.toNat = min a.length b.length := by omega
  obtain ⟨t1, ht1, hrun1⟩ := recs_take_slice ha P (by omega) (by omega)
  obtain ⟨t2, ht2, hrun2⟩ := recs_take_slice hb P (by omega) (by omega)
  have HT1 := Lib.hid ht1
  have HT2 := Lib.hid ht2
  have HPN := Lib.hid hPn
  have HP := Lib.hid hP
  clear ha hb ht1 ht2 hPn hP
  go_enter Try.func29, Try.ntmps29
  go_upto_region 2 with fail
  generalize hX : (if b.length < a.length then (b.length : Int) else (a.length : Int)) = X
  obtain rfl : X = P := by rw [← hX, HP.out]; split <;> omega
  clear hX
  have hsc := fun (w' : World) (h1 : Below w.heap.size w w') => same_calls (a.take X.toNat) (b.take X.toNat) t1 t2 (HT1.out.below h1 (Nat.le_refl _)) (HT2.out.below h1 (Nat.le_refl _))
  have HSC := Lib.hid hsc
  clear hsc
  go_region_held3 (fun w' => Below w.heap.size w w') (first | exact (Below.refl _ _).drew | assumption)
    ((first | (go_at_call 18; refine (HSC.out _ (by first | exact (Below.refl _ _).drew | assumption)).mono ?_; rintro e w2 ⟨rfl, hb2⟩
               have hbw2 : Below w.heap.size w w2 := (Below.refl _ w).drew.trans hb2)))
  go_wp2_with fail
  go_ret
  refine ⟨retb ?_, hbw2⟩
  unfold beginsB
  rw [← HPN.out]
end Go.Proofs.Ytodmihpmbecncaa
