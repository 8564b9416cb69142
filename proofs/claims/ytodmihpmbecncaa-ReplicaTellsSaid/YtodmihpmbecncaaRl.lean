/-
  A region that draws its order and whose last operation waits for all others (a store into a cell that the region reads): the others first, then the last. No condition.
-/
import Derived.Test.YtodmihpmbecncaaApp
namespace Go.Proofs.Ytodmihpmbecncaa
open Go.RowKit

section
variable {P : Program} {Q : Exit → Act → World → Prop}

/-- The post of the others: the last operation is still to come. -/
def LastQ (P : Program) (o : Oper) (Q : Exit → Act → World → Prop) : Exit → Act → World → Prop
  | .normal, a, w => o.wp P a w (fun a' w' => Q .normal a' w') Q
  | e, a, w => Q e a w

theorem opwp_last {o oi : Oper} {a : Act} {w : World} {K K' : Act → World → Prop} (h : ∀ a w, K a w → K' a w) (hh : oi.wp P a w K (LastQ P o Q)) : oi.wp P a w K' Q := by
  unfold Oper.wp at *
  generalize (execOp a.eval oi).run P w = r at *
  cases r with
  | ok n w' =>
    cases n <;> simp only [Oper.upon] at hh ⊢ <;>
      first
        | exact h _ _ hh
        | exact Calls.mono hh (fun e w'' he => by cases e <;> first | exact h _ _ he | exact he)
        | exact Rows.mono hh (fun _ _ he => h _ _ he)
  | halt x w' => cases x <;> simp only [Oper.upon] at hh ⊢ <;> exact hh

/-- Operation x waits for number i. -/
def waitsOn (x : Oper) (i : Nat) : Bool := x.after.any fun e => Region.binds .any e && e.on == i
/-- Each other operation is waited for by a later one; guards and edges look back alone. -/
def lastOk (head : Array Oper) (o : Oper) : Bool :=
  o.guard.isNone && (o.after.all fun e => !Region.binds .any e || decide (e.on < head.size)) &&
  ((List.range head.size).all fun i => waitsOn o i || ((List.range head.size).any fun j => decide (i < j) && ((head[j]?).map fun x => waitsOn x i).getD false)) &&
  ((List.range head.size).all fun i => ((head[i]?).map fun x => (x.after.all fun e => !Region.binds .any e || decide (e.on < i)) && (match x.guard with | none => true | some (g, _) => decide (g < head.size))).getD true)
/-- What has come up: its predecessors have too. -/
def Closed (head : Array Oper) (L : Array Bool) : Prop := ∀ j x, head[j]? = some x → L.getD j false = true → ∀ e ∈ x.after, Region.binds .any e = true → L.getD e.on false = true

variable {head : Array Oper} {o : Oper} (hok : lastOk head o = true)
include hok

theorem last_guard : o.guard = none := by
  unfold lastOk at hok
  simp only [Bool.and_eq_true] at hok
  simpa using hok.1.1.1
theorem last_back : ∀ e ∈ o.after, Region.binds .any e = true → e.on < head.size := fun e he hb => by
  unfold lastOk at hok
  simp only [Bool.and_eq_true] at hok
  have := Array.all_eq_true'.1 hok.1.1.2 e he
  rw [hb] at this
  simpa using this
omit hok in
theorem waits_of {x : Oper} {i : Nat} (h : waitsOn x i = true) : ∃ e ∈ x.after, Region.binds .any e = true ∧ e.on = i := by
  obtain ⟨e, he, hb⟩ := Array.any_eq_true'.1 h
  simp only [Bool.and_eq_true, beq_iff_eq] at hb
  exact ⟨e, he, hb⟩
theorem last_waits {i : Nat} (hi : i < head.size) : waitsOn o i = true ∨ ∃ j x, i < j ∧ j < head.size ∧ head[j]? = some x ∧ waitsOn x i = true := by
  unfold lastOk at hok
  simp only [Bool.and_eq_true] at hok
  have h := List.all_eq_true.1 hok.1.2 i (List.mem_range.2 hi)
  simp only [Bool.or_eq_true] at h
  refine h.imp (fun h => h) fun h => ?_
  obtain ⟨j, hj, h2⟩ := List.any_eq_true.1 h
  simp only [Bool.and_eq_true, decide_eq_true_eq] at h2
  have hj' := List.mem_range.1 hj
  have hx : head[j]? = some head[j] := Array.getElem?_eq_getElem hj'
  refine ⟨j, head[j], h2.1, hj', hx, ?_⟩
  have h3 := h2.2
  rw [hx] at h3
  simpa using h3
/-- Where the last may come up, all others have. -/
theorem last_all {L : Array Bool} (hcl : Closed head L) (h : ∀ e ∈ o.after, Region.binds .any e = true → e.on < head.size → L.getD e.on false = true) : ∀ j, j < head.size → L.getD j false = true := by
  have key : ∀ d j, head.size - j = d → j < head.size → L.getD j false = true := by
    intro d
    induction d using Nat.strongRecOn with
    | _ d ih =>
      intro j hd hj
      rcases last_waits hok hj with hw | ⟨k, x, h1, h2, h3, h4⟩
      · obtain ⟨e, he, hb, rfl⟩ := waits_of hw
        exact h e he hb hj
      · have hk := ih (head.size - k) (by omega) k rfl h2
        obtain ⟨e, he, hb, rfl⟩ := waits_of h4
        exact hcl k x h3 hk e he hb
  exact fun j hj => key _ j rfl hj
theorem head_back {i : Nat} {x : Oper} (hi : head[i]? = some x) : (∀ e ∈ x.after, Region.binds .any e = true → e.on < i) ∧ ∀ g b, x.guard = some (g, b) → g < head.size := by
  have hlt : i < head.size := (Array.getElem?_eq_some_iff.1 hi).1
  unfold lastOk at hok
  simp only [Bool.and_eq_true] at hok
  have h := List.all_eq_true.1 hok.2 i (List.mem_range.2 hlt)
  rw [hi] at h
  simp only [Option.map_some, Option.getD_some, Bool.and_eq_true] at h
  refine ⟨fun e he hb => by have := Array.all_eq_true'.1 h.1 e he; rw [hb] at this; simpa using this, fun g b hg => ?_⟩
  have h2 := h.2
  rw [hg] at h2
  simpa using h2

/-- If none may come up, all have. -/
theorem ready_nil {L : Array Bool} (hs : L.size = head.size) (h : Region.ready .any head L = []) : ∀ i, i < head.size → L.getD i false = true := by
  intro i
  induction i using Nat.strongRecOn with
  | _ i ih =>
    intro hi
    have hx : head[i]? = some head[i] := Array.getElem?_eq_getElem hi
    have hiL : i < L.size := by omega
    cases hl : L.getD i false with
    | true => rfl
    | false =>
      exfalso
      have hu : L.getD i true = false := by simp [hiL] at hl ⊢; exact hl
      have : i ∈ Region.ready .any head L := mem_ready.2 ⟨hu, head[i], hx, fun e he hb => ih e.on ((head_back hok hx).1 e he hb) (Nat.lt_trans ((head_back hok hx).1 e he hb) hi)⟩
      rw [h] at this
      cases this

omit hok in
theorem push_getD {L : Array Bool} (hs : L.size = head.size) (d : Bool) {i : Nat} (hi : i < head.size) : (L.push false).getD i d = L.getD i d := by
  simp [Array.getElem?_push, hs, Nat.ne_of_lt hi]
omit hok in
theorem push_last {L : Array Bool} (hs : L.size = head.size) (d : Bool) : (L.push false).getD head.size d = false := by
  rw [← hs]; simp

theorem ready_head {L : Array Bool} (hs : L.size = head.size) (hcl : Closed head L) {i : Nat} (hi : i ∈ Region.ready .any (head.push o) (L.push false)) : (i < head.size ∧ i ∈ Region.ready .any head L) ∨ (i = head.size ∧ ∀ j, j < head.size → L.getD j false = true) := by
  obtain ⟨h0, x, hx, h1⟩ := mem_ready.1 hi
  have hlt : i < (head.push o).size := (Array.getElem?_eq_some_iff.1 hx).1
  simp only [Array.size_push] at hlt
  by_cases he : i < head.size
  · have hx' : head[i]? = some x := by rw [Array.getElem?_push_lt he] at hx; rw [Array.getElem?_eq_getElem he]; exact hx
    refine .inl ⟨he, mem_ready.2 ⟨by rw [push_getD hs _ he] at h0; exact h0, x, hx', fun e hm hb => ?_⟩⟩
    have := h1 e hm hb
    rwa [push_getD hs _ (Nat.lt_trans ((head_back hok hx').1 e hm hb) he)] at this
  · obtain rfl : i = head.size := by omega
    refine .inr ⟨rfl, last_all hok hcl fun e hm hb hj => ?_⟩
    have hxo : x = o := by simpa using hx.symm
    subst hxo
    have := h1 e hm hb
    rwa [push_getD hs _ hj] at this
theorem ready_last {L : Array Bool} (hs : L.size = head.size) (hall : ∀ j, j < head.size → L.getD j false = true) : head.size ∈ Region.ready .any (head.push o) (L.push false) :=
  mem_ready.2 ⟨push_last hs true, o, by simp, fun e he hb => by rw [push_getD hs _ (last_back hok e he hb)]; exact hall _ (last_back hok e he hb)⟩
omit hok in
theorem ready_done {L : Array Bool} (hs : L.size = head.size) (hall : ∀ j, j < head.size → L.getD j false = true) : Region.ready .any (head.push o) ((L.push false).setIfInBounds head.size true) = [] := by
  rw [List.eq_nil_iff_forall_not_mem]
  intro i hi
  obtain ⟨h0, x, hx, _⟩ := mem_ready.1 hi
  have hlt : i < (head.push o).size := (Array.getElem?_eq_some_iff.1 hx).1
  simp only [Array.size_push] at hlt
  by_cases he : i = head.size
  · subst he
    simp [← hs] at h0
  · rw [getD_set_ne true (fun e => he e.symm), push_getD hs _ (by omega)] at h0
    have := hall i (by omega)
    have hiL : i < L.size := by omega
    simp [hiL] at this h0
    rw [this] at h0; cases h0

theorem wpOp_last {i : Nat} (hi : i < head.size) {a : Act} {w : World} {K K' : Act → World → Prop} (h : ∀ a w, K a w → K' a w) (hh : wpOp P head (LastQ P o Q) i K a w) : wpOp P (head.push o) Q i K' a w := by
  have hx : head[i]? = some head[i] := Array.getElem?_eq_getElem hi
  have hx' : (head.push o)[i]? = some head[i] := by rw [Array.getElem?_push_lt hi]
  have hw : Region.wanted head[i] (yielded (head.push o) a.tmps) = Region.wanted head[i] (yielded head a.tmps) := by
    unfold Region.wanted
    cases hg : head[i].guard with
    | none => rfl
    | some gb =>
      obtain ⟨g, b⟩ := gb
      have hgl := (head_back hok hx).2 g b hg
      simp only [yielded, Array.getElem?_push_lt hgl, Array.getElem?_eq_getElem hgl]
  unfold wpOp at *
  rw [hx] at hh
  rw [hx']
  simp only at hh ⊢
  rw [hw]
  split
  · rename_i hwt
    rw [if_pos hwt] at hh
    rcases hh with hh | ⟨h1, h2⟩
    · exact .inl (opwp_last h hh)
    · refine .inr ⟨h1, ?_⟩
      exact h2
  · rename_i hwt
    rw [if_neg hwt] at hh
    exact h _ _ hh

omit hok in
theorem closed_set {L : Array Bool} (hcl : Closed head L) {i : Nat} (hi : i ∈ Region.ready .any head L) : Closed head (L.setIfInBounds i true) := by
  obtain ⟨_, x, hx, hall⟩ := mem_ready.1 hi
  intro j y hy hj e he hb
  by_cases hij : i = j
  · subst hij
    have : y = x := Option.some.inj (hy.symm.trans hx)
    subst this
    exact getD_set_true (hall e he hb)
  · rw [getD_set_ne false hij] at hj
    exact getD_set_true (hcl j y hy hj e he hb)

theorem wpAny_last : ∀ (fuel : Nat) (L : Array Bool) (a : Act) (w : World), L.size = head.size → Closed head L → wpAny P .any head (LastQ P o Q) fuel L a w → wpAny P .any (head.push o) Q (fuel + 1) (L.push false) a w := by
  have fin : ∀ (f : Nat) (L : Array Bool) (a : Act) (w : World), L.size = head.size → Closed head L → (∀ j, j < head.size → L.getD j false = true) → LastQ P o Q .normal a w → wpAny P .any (head.push o) Q (f + 1) (L.push false) a w := fun f L a w hs hcl hall hq => by
    refine ⟨fun h => ?_, fun i hi => ?_⟩
    · have := ready_last hok hs hall
      rw [h] at this; cases this
    · rcases ready_head hok hs hcl hi with ⟨h1, h2⟩ | ⟨rfl, _⟩
      · obtain ⟨h0, _⟩ := mem_ready.1 h2
        have := hall i h1
        have hiL : i < L.size := by omega
        simp [hiL] at this h0
        rw [this] at h0; cases h0
      · unfold wpOp
        simp only [Array.getElem?_push_size, Region.wanted, last_guard hok, if_true]
        refine .inl (Oper.wp_mono (fun a' w' hq' => ?_) hq)
        cases f with
        | zero => exact ⟨ready_done hs hall, hq'⟩
        | succ f => exact ⟨fun _ => hq', fun j hj => by rw [ready_done hs hall] at hj; cases hj⟩
  intro fuel
  induction fuel with
  | zero => intro L a w hs hcl h; exact fin 0 L a w hs hcl (ready_nil hok hs h.1) h.2
  | succ fuel ih =>
    intro L a w hs hcl h
    cases hr : Region.ready .any head L with
    | nil => exact fin (fuel + 1) L a w hs hcl (ready_nil hok hs hr) (h.1 hr)
    | cons k ks =>
      have hk : k ∈ Region.ready .any head L := by rw [hr]; exact List.mem_cons_self
      have hun : ¬ ∀ j, j < head.size → L.getD j false = true := fun hall => by
        obtain ⟨h0, x, hx, _⟩ := mem_ready.1 hk
        have hkl : k < head.size := (Array.getElem?_eq_some_iff.1 hx).1
        have := hall k hkl
        have hiL : k < L.size := by omega
        simp [hiL] at this h0
        rw [this] at h0; cases h0
      refine ⟨fun h0 => ?_, fun i hi => ?_⟩
      · obtain ⟨h1, x, hx, h2⟩ := mem_ready.1 hk
        have hkl : k < head.size := (Array.getElem?_eq_some_iff.1 hx).1
        have : k ∈ Region.ready .any (head.push o) (L.push false) := mem_ready.2 ⟨by rw [push_getD hs _ hkl]; exact h1, x, by rw [Array.getElem?_push_lt hkl]; rw [Array.getElem?_eq_getElem hkl] at hx; exact hx, fun e he hb => by
          rw [push_getD hs _ (Nat.lt_trans ((head_back hok hx).1 e he hb) hkl)]; exact h2 e he hb⟩
        rw [h0] at this; cases this
      · rcases ready_head hok hs hcl hi with ⟨h1, h2⟩ | ⟨rfl, h2⟩
        · refine wpOp_last hok h1 (fun a' w' hk' => ?_) (h.2 i h2)
          have hp : (L.push false).setIfInBounds i true = (L.setIfInBounds i true).push false := by
            have hiL : i < L.size := by omega
            apply Array.ext_getElem?
            intro j
            by_cases hij : i = j
            · subst hij
              rw [Array.getElem?_push_lt (by simpa using hiL), Array.getElem?_setIfInBounds_self_of_lt (by simp; omega)]
              simp
            · rw [Array.getElem?_setIfInBounds_ne hij, Array.getElem?_push, Array.getElem?_push, Array.getElem?_setIfInBounds_ne hij, Array.size_setIfInBounds]
          rw [hp]
          exact ih _ a' w' (by simpa using hs) (closed_set hcl h2) hk'
        · exact absurd h2 hun

theorem wp_region_last {id : Nat} {ops : Array Oper} {S : World → Prop} {a : Act} {w : World} (hm : P.follows .mixedOrders = true) (he : ops = head.push o) (hS : S w.drew)
    (h : S w.drew → wpAnyH P .any head (LastQ P o Q) S head.size (Array.replicate head.size false) a w.drew) : (Code.region id ops true).wp P Q a w := by
  subst he
  refine wp_region_any hm ?_
  have := wpAny_last hok head.size (Array.replicate head.size false) a w.drew (by simp) (fun j x hx hj => by rw [getD_replicate_false] at hj; cases hj) (wpAny_of_held _ _ _ _ (h hS))
  rw [Array.size_push, Array.replicate_succ]
  exact this
end

section
variable {P : Program} {Q : Exit → Act → World → Prop}
/-- The last two operations, one behind the other. -/
theorem wp_region_last2 {head : Array Oper} {o1 o2 : Oper} (h1 : lastOk head o1 = true) (h2 : lastOk (head.push o1) o2 = true) {id : Nat} {ops : Array Oper} {S : World → Prop} {a : Act} {w : World} (hm : P.follows .mixedOrders = true) (he : ops = (head.push o1).push o2) (hS : S w.drew)
    (h : S w.drew → wpAnyH P .any head (LastQ P o1 (LastQ P o2 Q)) S head.size (Array.replicate head.size false) a w.drew) : (Code.region id ops true).wp P Q a w := by
  subst he
  refine wp_region_any hm ?_
  have hc : ∀ (hd : Array Oper), Closed hd (Array.replicate hd.size false) := fun hd j x hx hj => by rw [getD_replicate_false] at hj; cases hj
  have := wpAny_last h1 head.size (Array.replicate head.size false) a w.drew (by simp) (hc _) (wpAny_of_held _ _ _ _ (h hS))
  have := wpAny_last h2 (head.size + 1) _ a w.drew (by simp) (by have := hc (head.push o1); rw [Array.size_push, Array.replicate_succ] at this; exact this) this
  rw [Array.size_push, Array.size_push, Array.replicate_succ, Array.replicate_succ]
  exact this
theorem wp_region_last3 {head : Array Oper} {o1 o2 o3 : Oper} (h1 : lastOk head o1 = true) (h2 : lastOk (head.push o1) o2 = true) (h3 : lastOk ((head.push o1).push o2) o3 = true) {id : Nat} {ops : Array Oper} {S : World → Prop} {a : Act} {w : World} (hm : P.follows .mixedOrders = true) (he : ops = ((head.push o1).push o2).push o3) (hS : S w.drew)
    (h : S w.drew → wpAnyH P .any head (LastQ P o1 (LastQ P o2 (LastQ P o3 Q))) S head.size (Array.replicate head.size false) a w.drew) : (Code.region id ops true).wp P Q a w := by
  subst he
  refine wp_region_any hm ?_
  have hc : ∀ (hd : Array Oper), Closed hd (Array.replicate hd.size false) := fun hd j x hx hj => by rw [getD_replicate_false] at hj; cases hj
  have := wpAny_last h1 head.size (Array.replicate head.size false) a w.drew (by simp) (hc _) (wpAny_of_held _ _ _ _ (h hS))
  have := wpAny_last h2 (head.size + 1) _ a w.drew (by simp) (by have := hc (head.push o1); rw [Array.size_push, Array.replicate_succ] at this; exact this) this
  have := wpAny_last h3 (head.size + 1 + 1) _ a w.drew (by simp) (by have := hc ((head.push o1).push o2); rw [Array.size_push, Array.size_push, Array.replicate_succ, Array.replicate_succ] at this; exact this) this
  rw [Array.size_push, Array.size_push, Array.size_push, Array.replicate_succ, Array.replicate_succ, Array.replicate_succ]
  exact this
theorem last_split (ops : Array Oper) (h : decide (0 < ops.size) = true) : ops = ops.pop.push (ops.back?.getD default) := by
  have h' : 0 < ops.size := by simpa using h
  apply Array.ext_getElem?
  intro i
  rw [Array.getElem?_push]
  simp only [Array.size_pop, Array.getElem?_pop, Array.back?]
  split
  · subst i
    rw [Array.getElem?_eq_getElem (by omega)]; rfl
  · split
    · rfl
    · rw [Array.getElem?_eq_none (by omega)]
theorem last_split2 (ops : Array Oper) (h : decide (1 < ops.size) = true) : ops = (ops.pop.pop.push (ops.pop.back?.getD default)).push (ops.back?.getD default) := by
  have h' : 1 < ops.size := by simpa using h
  rw [← last_split ops.pop (by simp; omega)]
  exact last_split ops (by simp; omega)
theorem last_split3 (ops : Array Oper) (h : decide (2 < ops.size) = true) : ops = ((ops.pop.pop.pop.push (ops.pop.pop.back?.getD default)).push (ops.pop.back?.getD default)).push (ops.back?.getD default) := by
  have h' : 2 < ops.size := by simpa using h
  rw [← last_split2 ops.pop (by simp; omega)]
  exact last_split ops (by simp; omega)
end
end Go.Proofs.Ytodmihpmbecncaa
