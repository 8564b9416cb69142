/-
  Walk of the law ReplicaMatches: it answers true. Condition: the operations lie in memory.
-/
import Derived.Test.YtodmihpmbecncaaLvA
namespace Go.Proofs.Ytodmihpmbecncaa
open Go.RowKit

/-- The memory of a law about the cluster. -/
structure LwSt (w wr : World) (cb : Nat) (x : M.Cl) (L : Lay) (g : M.Gh) : Prop where
  below : Below w.heap.size w wr
  cl : ClOk wr cb x L
  inv : M.PInv x g
  cls : ∀ k, ClS cb L k → w.heap.size ≤ k

section
variable {w wr w2 : World} {cb : Nat} {x : M.Cl} {L : Lay} {g : M.Gh}
theorem LwSt.below' (h : LwSt w wr cb x L g) (hb : Below wr.heap.size wr w2) : LwSt w w2 cb x L g :=
  ⟨h.below.trans (hb.mono h.below.size), h.cl.below hb, h.inv, h.cls⟩
theorem LwSt.wf (h : LwSt w wr cb x L g) : ∀ i, i < 3 → M.WF (M.Rf x i) := fun i hi => (h.cl.rep i hi).wf
theorem LwSt.rep (h : LwSt w wr cb x L g) {i : Nat} (hi : i < 3) (hb : Below wr.heap.size wr w2) : RepOk w2 (L.bs i) (M.Rf x i) (L.As i) (L.caps i) := (h.below' hb).cl.rep i hi
theorem LwSt.step {e : Ending} {o : M.Op} (h : LwSt w wr cb x L g) (hp : ClPost wr cb L (M.step x o) e w2) :
    e = .returned (.bool true) ∧ ∃ L' g', LwSt w w2 cb (M.step x o) L' g' ∧ M.Ext g g' ∧ (∀ k, k < wr.heap.size → ClS cb L' k → ClS cb L k) ∧ Fr (ClS cb L) wr w2 := by
  obtain ⟨L', rfl, hok, hcl, hF⟩ := hp
  obtain ⟨g', E, P'⟩ := M.pinv_step h.inv h.wf o
  have hs := h.below.size
  refine ⟨rfl, L', g', ⟨h.below.trans ⟨hF.os, hF.tape, hF.output, hF.size, fun k hk => hF.block k (by omega) (fun hc => by have := h.cls k hc; omega)⟩, hok, P', fun k hk => ?_⟩, E, hcl, hF⟩
  rcases Nat.lt_or_ge k wr.heap.size with q | q
  · exact h.cls k (hcl k q hk)
  · omega
theorem LwSt.row {base T sz n : Nat} {v : Value} {xs : List Value} (h : LwSt w wr cb x L g) (hF : Fr (ClS cb L) wr w2) (hr : wr.ownsRow base T sz v n xs) (hT : T ≠ 34 ∧ T ≠ 46 ∧ T ≠ 42 ∧ T ≠ 37 ∧ T ≠ 76 ∧ T ≠ 55) : w2.ownsRow base T sz v n xs :=
  own_fr hr hF fun k hk hc => by
    rcases ClS.kinds h.cl (own_kind hr hk) hc with q | q | q | ⟨q, _⟩ | q | q
    · exact hT.1 q
    · exact hT.2.1 q
    · exact hT.2.2.1 q
    · exact hT.2.2.2.1 q
    · exact hT.2.2.2.2.1 q
    · exact hT.2.2.2.2.2 q
/-- A row of another type was written. -/
theorem LwSt.wrote {T : Nat} {S : Nat → Prop} (h : LwSt w wr cb x L g) (hF : Fr S wr w2) (hS : ∀ k, S k → Kind wr k T ∧ w.heap.size ≤ k) (hT : T ≠ 34 ∧ T ≠ 46 ∧ T ≠ 42 ∧ T ≠ 37 ∧ T ≠ 76 ∧ T ≠ 55) : LwSt w w2 cb x L g := by
  have hs := h.below.size
  refine ⟨h.below.trans ⟨hF.os, hF.tape, hF.output, hF.size, fun k hk => hF.block k (by omega) (fun e => by have := (hS k e).2; omega)⟩, h.cl.keep hF (fun k hk => ?_), h.inv, h.cls⟩
  have hkk := (hS k hk).1
  exact ⟨fun q => hkk.ne q hT.1 rfl, fun q => hkk.ne q hT.2.1 rfl, fun q => hkk.ne q hT.2.2.1 rfl, fun q => hkk.ne q hT.2.2.2.2.1 rfl, fun q => hkk.ne q hT.2.2.2.2.2 rfl, fun ad e1 e2 => hkk.ne (h.cl.mkind e1) hT.2.2.2.1 e2.symm⟩
/-- Terms never decrease. -/
theorem LwSt.terms {w3 : World} {cb' : Nat} {x' : M.Cl} {L' : Lay} {g' : M.Gh} (h : LwSt w wr cb x L g) (h' : LwSt w w3 cb' x' L' g') (E : M.Ext g g') {i : Nat} (hi : i < 3) : (M.Rf x i).hard.term ≤ (M.Rf x' i).hard.term := by
  rw [← (h.inv.inv.node i hi).cur, ← (h'.inv.inv.node i hi).cur]; exact E.cur i
theorem LwSt.start {cb : Nat} (h : BeginPost w (.returned (ptrV cb)) wr) : ∃ L, cb = w.heap.size ∧ LwSt w wr cb M.begin_ L M.gh0 := by
  obtain ⟨L, h1, h2, h3, h4⟩ := h
  have e : cb = w.heap.size := by
    injection h1 with h1
    unfold ptrV at h1
    injection h1 with h1
    injection h1 with h1
    injection h1
  subst e
  exact ⟨L, rfl, h4, h2, M.pinv_begin, h3⟩
/-- The logs of two replicas agree up to a number at which their entries have one term. -/
theorem LwSt.agree (h : LwSt w wr cb x L g) {i j m : Nat} (hi : i < 3) (hj : j < 3) (h1 : m ≤ (M.Rf x i).log.length) (h2 : m ≤ (M.Rf x j).log.length)
    (ht : 1 ≤ m → M.tn (M.Rf x i).log m = M.tn (M.Rf x j).log m) : (M.Rf x i).log.take m = (M.Rf x j).log.take m := by
  rcases Nat.eq_zero_or_pos m with rfl | hm
  · simp
  · exact (M.gl_match (h.inv.inv.node i hi).gl (h.inv.inv.node j hj).gl m hm h1 h2 (ht hm)).2.2
end

theorem field40 (a b : Int) (w : World) : (Instr.field 40 (.agg #[.int .i64 a, .int .i64 b]) 0).run Try.prog w = .ok (.int .i64 a) w := by kernel_rfl
def intC (ts : List Int) : List Value := ts.map (.int .i64 ·)
theorem intC_length (ts : List Int) : (intC ts).length = ts.length := by simp [intC]
theorem intC_at (ts : List Int) {k : Nat} (hk : k < ts.length) : (intC ts)[k]? = some (.int .i64 (ts.getD k 0)) := by
  simp [intC, hk]
theorem intC_set (ts : List Int) (k : Nat) (t : Int) : (intC ts).set k (.int .i64 t) = intC (ts.set k t) := by
  simp [intC, List.map_set]

/-- The memory of ReplicaMatches. -/
structure MtSt (w wr : World) (cb : Nat) (x : M.Cl) (L : Lay) (g : M.Gh) (tg : Nat) (ts : List Int) : Prop extends LwSt w wr cb x L g where
  row : wr.ownsRow w.heap.size 3 1 (.slice (some ⟨tg, 0, none⟩) 3 3) 3 (intC ts)
  tN : ts.length = 3
  le : ∀ k, k < 3 → ts.getD k 0 ≤ (M.Rf x k).hard.term
section
variable {w wr w2 : World} {cb tg : Nat} {x : M.Cl} {L : Lay} {g : M.Gh} {ts : List Int}
theorem MtSt.below' (h : MtSt w wr cb x L g tg ts) (hb : Below wr.heap.size wr w2) : MtSt w w2 cb x L g tg ts :=
  ⟨h.toLwSt.below' hb, own_below h.row hb (Nat.le_refl _), h.tN, h.le⟩
theorem MtSt.step {e : Ending} {o : M.Op} (h : MtSt w wr cb x L g tg ts) (hp : ClPost wr cb L (M.step x o) e w2) : e = .returned (.bool true) ∧ ∃ L' g', MtSt w w2 cb (M.step x o) L' g' tg ts := by
  obtain ⟨he, L', g', h', E, _, hF⟩ := h.toLwSt.step hp
  exact ⟨he, L', g', h', h.toLwSt.row hF h.row (by decide), h.tN, fun k hk => Int.le_trans (h.le k hk) (h.toLwSt.terms h' E hk)⟩
theorem MtSt.cell (h : MtSt w wr cb x L g tg ts) {k : Nat} (hk : k < 3) : wr.cell? ⟨tg, k, none⟩ = some (.int .i64 (ts.getD k 0)) :=
  (h.row.cellAt k (by omega)).trans (intC_at ts (by rw [h.tN]; exact hk))
theorem MtSt.put (h : MtSt w wr cb x L g tg ts) {k : Nat} (hk : k < 3) : MtSt w (wr.setCell ⟨tg, k, none⟩ (.int .i64 (M.Rf x k).hard.term)) cb x L g tg (ts.set k (M.Rf x k).hard.term) := by
  have hf : Fr (fun q => q = tg) wr (wr.setCell ⟨tg, k, none⟩ (.int .i64 (M.Rf x k).hard.term)) := fr_setCell wr ⟨tg, k, none⟩ _
  refine ⟨h.toLwSt.wrote (T := 3) hf (fun q hq => ?_) (by decide), ?_, by simpa using h.tN, fun j hj => ?_⟩
  · subst hq
    exact ⟨own_kind h.row rfl, (own_lt h.row rfl).1⟩
  · rw [← intC_set]
    exact (h.row.stored k _).1
  · by_cases e : j = k
    · subst e; rw [M.getD_set_eq _ _ _ _ (by rw [h.tN]; exact hj)]; exact Int.le_refl _
    · rw [M.getD_set_ne _ _ _ (fun q => e q.symm)]; exact h.le j hj
end
end Go.Proofs.Ytodmihpmbecncaa
