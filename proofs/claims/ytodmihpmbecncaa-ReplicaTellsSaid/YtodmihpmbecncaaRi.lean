/-
  A region that draws its order, walked by an invariant over which operations have come up: each operation is walked once, in whatever order. No condition.
-/
import Derived.Test.YtodmihpmbecncaaRl
namespace Go.Proofs.Ytodmihpmbecncaa
open Go.RowKit

section
variable {P : Program} {Q : Exit → Act → World → Prop}

def needsOf (o : Oper) : List Nat := (o.after.toList.filter (Region.binds .any)).map (·.on)
def lookBack (ops : Array Oper) : Bool := (List.range ops.size).all fun i => ((ops[i]?).map fun o => (needsOf o).all fun n => decide (n < i)).getD true
theorem lookBack_at {ops : Array Oper} (h : lookBack ops = true) {i : Nat} {o : Oper} (ho : ops[i]? = some o) : ∀ n ∈ needsOf o, n < i := by
  have hlt : i < ops.size := (Array.getElem?_eq_some_iff.1 ho).1
  have := List.all_eq_true.1 h i (List.mem_range.2 hlt)
  rw [ho] at this
  intro n hn
  simpa using List.all_eq_true.1 this n hn
theorem needs_mem {o : Oper} {e : Edge} (he : e ∈ o.after) (hb : Region.binds .any e = true) : e.on ∈ needsOf o :=
  List.mem_map.2 ⟨e, List.mem_filter.2 ⟨by simpa using he, hb⟩, rfl⟩

theorem getD_setI {L : Array Bool} {i j : Nat} (hi : i < L.size) : (L.setIfInBounds i true).getD j false = true ↔ j = i ∨ L.getD j false = true := by
  by_cases h : i = j
  · subst h; simp [hi]
  · rw [getD_set_ne false h]
    constructor
    · exact .inr
    · rintro (e | e)
      · exact absurd e.symm h
      · exact e

theorem count_setI {L : Array Bool} {i : Nat} (hi : i < L.size) (hf : L.getD i true = false) : (L.setIfInBounds i true).toList.count false + 1 = L.toList.count false := by
  have hv : L.toList[i]'(by simpa using hi) = false := by simpa [hi] using hf
  have hc : (L.setIfInBounds i true).toList = L.toList.set i true := by simp
  rw [hc, List.count_set (by simpa using hi), hv]
  have : 0 < L.toList.count false := List.count_pos_iff.2 (by rw [← hv]; exact List.getElem_mem _)
  rw [if_pos (show (false == false) = true from rfl), if_neg (show ¬ ((true == false) = true) by decide)]
  omega

theorem wp_region_inv {id : Nat} {ops : Array Oper} {a : Act} {w : World} (I : (Nat → Prop) → Act → World → Prop) (hm : P.follows .mixedOrders = true) (hl : lookBack ops = true) (h0 : I (fun _ => False) a w.drew)
    (hs : ∀ (D : Nat → Prop) (a : Act) (w : World) (i : Nat) (o : Oper), ops[i]? = some o → I D a w → ¬ D i → (∀ n ∈ needsOf o, D n) →
      ∀ K : Act → World → Prop, Shut (∀ a w, I (fun j => j = i ∨ D j) a w → K a w) → if Region.wanted o (yielded ops a.tmps) = true then Oper.wp P o a w K Q else K (a.put o.dst undef) w)
    (hf : ∀ (D : Nat → Prop) (a : Act) (w : World), (∀ i, i < ops.size → D i) → I D a w → Q .normal a w) : (Code.region id ops true).wp P Q a w := by
  refine wp_region_any hm ?_
  have key : ∀ (fuel : Nat) (L : Array Bool) (a : Act) (w : World), L.size = ops.size → L.toList.count false ≤ fuel → I (fun j => L.getD j false = true) a w → wpAny P .any ops Q fuel L a w := by
    have hall : ∀ (L : Array Bool), L.size = ops.size → Region.ready .any ops L = [] → ∀ i, i < ops.size → L.getD i false = true := by
      intro L hL hr i
      induction i using Nat.strongRecOn with
      | _ i ih =>
        intro hi
        have hx : ops[i]? = some ops[i] := Array.getElem?_eq_getElem hi
        have hiL : i < L.size := by omega
        cases hl' : L.getD i false with
        | true => rfl
        | false =>
          exfalso
          have hu : L.getD i true = false := by simp [hiL] at hl' ⊢; exact hl'
          have : i ∈ Region.ready .any ops L := mem_ready.2 ⟨hu, ops[i], hx, fun e he hb => ih e.on (lookBack_at hl hx _ (needs_mem he hb)) (Nat.lt_trans (lookBack_at hl hx _ (needs_mem he hb)) hi)⟩
          rw [hr] at this
          cases this
    intro fuel
    induction fuel with
    | zero =>
      intro L a w hL hc hI
      have hr : Region.ready .any ops L = [] := by
        rw [List.eq_nil_iff_forall_not_mem]
        intro i hi
        obtain ⟨h1, o, ho, _⟩ := mem_ready.1 hi
        have hlt : i < L.size := by rw [hL]; exact (Array.getElem?_eq_some_iff.1 ho).1
        have := count_setI hlt h1
        omega
      exact ⟨hr, hf _ a w (hall L hL hr) hI⟩
    | succ fuel ih =>
      intro L a w hL hc hI
      refine ⟨fun hr => hf _ a w (hall L hL hr) hI, fun i hi => ?_⟩
      obtain ⟨h1, o, ho, h2⟩ := mem_ready.1 hi
      have hlt : i < L.size := by rw [hL]; exact (Array.getElem?_eq_some_iff.1 ho).1
      have hcount := count_setI hlt h1
      refine wpOp_step ho fun K hK => hs _ a w i o ho hI (by simp [hlt] at h1 ⊢; exact h1) (fun n hn => ?_) K (fun a' w' h' => hK a' w' (ih _ a' w' (by simpa using hL) (by omega) ?_))
      · obtain ⟨e, he, rfl⟩ := List.mem_map.1 hn
        have := List.mem_filter.1 he
        exact h2 e (by simpa using this.1) this.2
      · have e : (fun j => (L.setIfInBounds i true).getD j false = true) = (fun j => j = i ∨ L.getD j false = true) := funext fun j => propext (getD_setI hlt)
        rw [e]; exact h'
  refine key ops.size _ a _ (by simp) ?_ ?_
  · simp
  · have : (fun j => (Array.replicate ops.size false).getD j false = true) = fun _ => False := funext fun j => by rw [getD_replicate_false]; simp
    rw [this]; exact h0
end
end Go.Proofs.Ytodmihpmbecncaa
