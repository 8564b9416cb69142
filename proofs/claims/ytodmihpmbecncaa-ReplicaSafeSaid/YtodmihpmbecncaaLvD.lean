/-
  The law ReplicaSafe: what it keeps in memory, and why it finds nothing wrong. No condition.
-/
import Derived.Test.YtodmihpmbecncaaLvB
namespace Go.Proofs.Ytodmihpmbecncaa
open Go.RowKit

/-! ### Plainly -/
namespace M
/-- What is known to be committed: a beginning of what was chosen in a term not above T. -/
def Known (g : Gh) (kn : List Rec) (T : Int) : Prop := kn = [] ∨ ∃ T0 n, Ch g T0 n ∧ T0 ≤ T ∧ kn.length ≤ n ∧ Ag (g.el T0) kn kn.length
theorem Known.ext {g g' : Gh} {kn : List Rec} {T : Int} (h : Known g kn T) (E : Ext g g') : Known g' kn T :=
  h.imp id fun ⟨T0, n, h1, h2, h3, h4⟩ => ⟨T0, n, E.ch h1, h2, h3, E.agL h4⟩
theorem Known.mono {g : Gh} {kn : List Rec} {T T' : Int} (h : Known g kn T) (hT : T ≤ T') : Known g kn T' :=
  h.imp id fun ⟨T0, n, h1, h2, h3, h4⟩ => ⟨T0, n, h1, Int.le_trans h2 hT, h3, h4⟩
theorem Ch.ld {g : Gh} (G : GI g) {T : Int} {n : Nat} (h : Ch g T n) : g.ld T ≠ -1 := fun e => by
  have h1 := h.1
  have h2 := h.2.1
  rw [G.el0 T e] at h2
  simp at h2; omega
theorem NodeOk.known {g : Gh} {i : Nat} {r : Rep} (h : NodeOk g i r) (W : WF r) : Known g (r.log.take r.commit.toNat) r.hard.term := by
  have h0 := h.com0
  have hN := W.commitN
  have hl : (r.log.take r.commit.toNat).length = r.commit.toNat := by rw [List.length_take]; omega
  rcases h.cm with e | ⟨T, n, h1, h2, h3, h4⟩
  · left; rw [e]; simp
  · refine .inr ⟨T, n, h1, h2, by omega, ?_⟩
    rw [hl]
    exact h4.trans ((Ag.refl (by omega)).take (by omega))
/-- Two lists that are committed are comparable. -/
theorem Known.comp {g : Gh} (G : GI g) {a b : List Rec} {S T : Int} (ha : Known g a S) (hb : Known g b T) : a.take (min a.length b.length) = b.take (min a.length b.length) := by
  rcases ha with rfl | ⟨A, n, a1, _, a2, a3⟩
  · simp
  rcases hb with rfl | ⟨B, m, b1, _, b2, b3⟩
  · simp
  have key : ∀ {A B : Int} {n m : Nat} {a b : List Rec}, Ch g A n → a.length ≤ n → Ag (g.el A) a a.length → Ch g B m → Ag (g.el B) b b.length → A ≤ B → b.length ≤ m → Ag a b (min a.length b.length) := by
    intro A B n m a b a1 a2 a3 b1 b3 hAB b2
    have := chosen_pre G a1 hAB (b1.ld G)
    exact ((a3.mono (Nat.min_le_left _ _)).symm.trans (this.mono (by omega))).trans (b3.mono (Nat.min_le_right _ _))
  rcases Int.le_total A B with h | h
  · exact (key a1 a2 a3 b1 b3 h b2).2.2
  · have := key b1 b2 b3 a1 a3 h a2
    rw [Nat.min_comm] at this
    exact this.2.2.symm
/-- What is committed is in the log of a leader of a later term. -/
theorem Known.leads {g : Gh} (G : GI g) {a : List Rec} {S T : Int} (ha : Known g a S) (hT : S < T) (hl : g.ld T ≠ -1) : Ag a (g.el T) a.length := by
  rcases ha with rfl | ⟨A, n, a1, a0, a2, a3⟩
  · exact Ag.zero _ _
  · exact a3.symm.trans ((chosen_pre G a1 (by omega) hl).mono a2)
end M

/-! ### In memory -/
def hardsC (ls : List Hard) : List Value := ls.flatMap fun h => [.int .i64 h.term, .int .i64 h.vote]
theorem hardsC_length (ls : List Hard) : (hardsC ls).length = ls.length * 2 := by
  induction ls with
  | nil => rfl
  | cons x xs ih => simp only [hardsC, List.flatMap_cons, List.length_append, List.length_cons] at *; simp at *; omega
theorem hardsC_append (a b : List Hard) : hardsC (a ++ b) = hardsC a ++ hardsC b := by simp [hardsC]
theorem hardsC_at : ∀ (xs : List Hard) (i : Nat) (hi : i < xs.length), (hardsC xs)[i * 2]? = some (.int .i64 xs[i].term) ∧ (hardsC xs)[i * 2 + 1]? = some (.int .i64 xs[i].vote) := by
  intro xs
  induction xs with
  | nil => intro i hi; simp at hi
  | cons x xs ih =>
    intro i hi
    cases i with
    | zero => exact ⟨rfl, rfl⟩
    | succ i =>
      have := ih i (by simpa using hi)
      simp only [hardsC, List.flatMap_cons, List.cons_append, List.nil_append] at *
      rw [show (i + 1) * 2 = i * 2 + 1 + 1 from by omega]
      simpa using this
theorem hardsC_one (ls : List Hard) : ∀ u ∈ hardsC ls, u.oneCell' = true := by
  intro u hu
  obtain ⟨p, hp, h2⟩ := List.mem_flatMap.1 hu
  simp only [List.mem_cons, List.not_mem_nil, or_false] at h2
  rcases h2 with rfl | rfl <;> rfl
theorem sl_one_hard (w : World) (h : Hard) : Sl (w.alloc (.cells #[.int .i64 h.term, .int .i64 h.vote] 40)) (w.heap.size ≤ ·) 2 (.slice (some ⟨w.heap.size, 0, none⟩) 1 1) 1 (hardsC [h]) :=
  ⟨by rw [hardsC_length]; rfl, by omega, _, _, rfl, by omega, by omega, Or.inr ⟨_, _, rfl, Nat.le_refl _, by simp, fun j u h => by rw [Nat.zero_add, World.cell?_alloc_new]; simpa [hardsC] using h⟩⟩
theorem info40 : (Try.prog.info? 40).map (fun i => (i.zero, i.size, i.bytes)) = some (some (.agg #[.int .i64 0, .int .i64 0]), 2, 16) := by kernel_rfl

/-- Which block the known list may lie in. -/
def KnB (B : Nat) (w : World) (L : Lay) (b : Nat) : Prop := B ≤ b ∧ Kind w b 55 ∧ ¬ rowsX L b
/-- The memory of ReplicaSafe. -/
structure SfSt (w wr : World) (cb : Nat) (x : M.Cl) (L : Lay) (g : M.Gh) (sv : Value) (ls : List Hard) (kv : Value) (kn : List Rec) (tm : Int) : Prop extends LwSt w wr cb x L g where
  row : wr.ownsRow w.heap.size 40 2 sv ls.length (hardsC ls)
  krow : Sl wr (KnB w.heap.size wr L) 2 kv kn.length (recsCells kn)
  lds : ∀ p ∈ ls, g.ld p.term = p.vote ∧ p.vote ≠ -1
  kn : M.Known g kn tm
section
variable {w wr w2 : World} {cb : Nat} {x : M.Cl} {L : Lay} {g : M.Gh} {sv kv : Value} {ls : List Hard} {kn : List Rec} {tm : Int}
theorem KnB.sl {S : Nat → Prop} {L' : Lay} {B : Nat} {v : Value} {n : Nat} {cs : List Value} (h : Sl wr (KnB B wr L) 2 v n cs) (hf : Fr S wr w2) (hS : ∀ k, Kind wr k 55 → ¬ rowsX L k → ¬ S k) (hX : ∀ k, Kind wr k 55 → rowsX L' k → rowsX L k) : Sl w2 (KnB B w2 L') 2 v n cs :=
  ((h.mono (ok' := fun b => KnB B wr L b) (fun _ _ k => k)).fr hf (fun b hb => hS b hb.2.1 hb.2.2)).mono (fun b _ hb => ⟨hb.1, hb.2.1.fr hf (hS b hb.2.1 hb.2.2), fun q => hb.2.2 (hX b hb.2.1 q)⟩)
/-- A row that was drawn up behind the cluster. -/
theorem KnB.of_own {B N n : Nat} {v : Value} {xs : List Value} (h : wr.ownsRow N 55 2 v n xs) (hB : B ≤ N) (hX : ∀ k, rowsX L k → k < N) : Sl wr (KnB B wr L) 2 v n xs := by
  obtain ⟨A, cap, rfl⟩ := own_form h
  have hc := own_cap h
  simp only [maxLen] at hc
  refine ⟨h.1, by omega, A, cap, rfl, hc.1, by omega, ?_⟩
  cases A with
  | none => exact .inl (own_nil h rfl).1
  | some ad =>
    obtain ⟨g, off, sp⟩ := ad
    have hk : Kind wr g 55 := own_kind h (k := g) rfl
    obtain ⟨rfl, rfl, h1, h2, h3⟩ := own_cell h rfl
    exact .inr ⟨g, 0, rfl, ⟨by omega, hk, fun q => by have := hX g q; omega⟩, h2, fun j u hu => by rw [Nat.zero_add]; exact h3 j u hu⟩
theorem SfSt.below' (h : SfSt w wr cb x L g sv ls kv kn tm) (hb : Below wr.heap.size wr w2) : SfSt w w2 cb x L g sv ls kv kn tm :=
  ⟨h.toLwSt.below' hb, own_below h.row hb (Nat.le_refl _), KnB.sl h.krow (Fr.of_below hb) (fun _ _ _ q => q) (fun _ _ q => q), h.lds, h.kn⟩
theorem rows_cls {k : Nat} (hc : ClOk wr cb x L) (hk : Kind wr k 55) : ClS cb L k → rowsX L k := fun h => by
  rcases h with rfl | rfl | rfl | ⟨ad, e, rfl⟩ | ⟨i, hi, rfl | ⟨ad, e, rfl⟩⟩
  · exact (hk.ne hc.kind (by decide) rfl).elim
  · exact (hk.ne hc.rkind (by decide) rfl).elim
  · exact (hk.ne hc.skind (by decide) rfl).elim
  · exact (hk.ne (hc.mkind e) (by decide) rfl).elim
  · exact (hk.ne (hc.bkind hi) (by decide) rfl).elim
  · exact ⟨i, hi, ad, e, rfl⟩
theorem SfSt.step {e : Ending} {o : M.Op} (h : SfSt w wr cb x L g sv ls kv kn tm) (hp : ClPost wr cb L (M.step x o) e w2) : e = .returned (.bool true) ∧ ∃ L' g', SfSt w w2 cb (M.step x o) L' g' sv ls kv kn tm := by
  obtain ⟨he, L', g', h', E, hcl, hF⟩ := h.toLwSt.step hp
  refine ⟨he, L', g', h', h.toLwSt.row hF h.row (by decide), KnB.sl h.krow hF (fun k hk hn q => hn (rows_cls h.cl hk q)) (fun k hk q => rows_cls h.cl hk (hcl k hk.lt (.inr (.inr (.inr (.inr (by
    obtain ⟨i, hi, ad, e1, e2⟩ := q
    exact ⟨i, hi, .inr ⟨ad, e1, e2⟩⟩))))))), fun p hp => ?_, h.kn.ext E⟩
  obtain ⟨h1, h2⟩ := h.lds p hp
  exact ⟨by rw [E.ld _ (by omega)]; exact h1, h2⟩
/-- A new list is known. -/
theorem SfSt.know {i : Nat} {v : Value} (h : SfSt w wr cb x L g sv ls kv kn tm) (hi : i < 3) (hv : Sl wr (KnB w.heap.size wr L) 2 v (M.Rf x i).commit.toNat (recsCells ((M.Rf x i).log.take (M.Rf x i).commit.toNat))) {tm' : Int} (h2 : (M.Rf x i).hard.term ≤ tm') :
    SfSt w wr cb x L g sv ls v ((M.Rf x i).log.take (M.Rf x i).commit.toNat) tm' := by
  have hN := (h.wf i hi).commitN
  have h0 := (h.inv.inv.node i hi).com0
  refine ⟨h.toLwSt, h.row, ?_, h.lds, ((h.inv.inv.node i hi).known (h.wf i hi)).mono h2⟩
  rw [List.length_take, show min (M.Rf x i).commit.toNat (M.Rf x i).log.length = (M.Rf x i).commit.toNat from by omega]
  exact hv
/-- A leader is noted. -/
theorem SfSt.push {i : Nat} {A : Option Addr} {c : Nat} (h : SfSt w wr cb x L g sv ls kv kn tm) (hi : i < 3) (hr : (M.Rf x i).role = 2) (hf : Fr (fun k => sv.ownBlock = some k) wr w2)
    (hown : w2.ownsRow w.heap.size 40 2 (.slice A (ls.length + 1) c) (ls.length + 1) (hardsC ls ++ hardsC [⟨(M.Rf x i).hard.term, i⟩])) :
    SfSt w w2 cb x L g (.slice A (ls.length + 1) c) (ls ++ [⟨(M.Rf x i).hard.term, i⟩]) kv kn tm := by
  have hn : (ls ++ [(⟨(M.Rf x i).hard.term, i⟩ : Hard)]).length = ls.length + 1 := by simp
  refine ⟨h.toLwSt.wrote (T := 40) hf (fun k hk => ⟨own_kind h.row hk, (own_lt h.row hk).1⟩) (by decide), ?_, KnB.sl h.krow hf (fun k hk _ q => hk.ne (own_kind h.row q) (by decide) rfl) (fun _ _ q => q), fun p hp => ?_, h.kn⟩
  · rw [hn, hardsC_append]; exact hown
  · rcases List.mem_append.1 hp with hp | hp
    · exact h.lds p hp
    · obtain rfl : p = ⟨(M.Rf x i).hard.term, i⟩ := by simpa using hp
      exact ⟨((h.inv.inv.node i hi).lead hr).1, by show (i : Int) ≠ -1; omega⟩
/-- A leader of the same term is the same. -/
theorem SfSt.same {i : Nat} (h : SfSt w wr cb x L g sv ls kv kn tm) (hi : i < 3) (hr : (M.Rf x i).role = 2) {p : Hard} (hp : p ∈ ls) (ht : p.term = (M.Rf x i).hard.term) : p.vote = i := by
  have h1 := (h.lds p hp).1
  rw [ht, ((h.inv.inv.node i hi).lead hr).1] at h1
  exact h1.symm
theorem SfSt.comp {i : Nat} (h : SfSt w wr cb x L g sv ls kv kn tm) (hi : i < 3) : beginsB kn ((M.Rf x i).log.take (M.Rf x i).commit.toNat) = true :=
  sameB_eq (h.kn.comp h.inv.inv.gi ((h.inv.inv.node i hi).known (h.wf i hi)))
theorem SfSt.leads {i : Nat} (h : SfSt w wr cb x L g sv ls kv kn tm) (hi : i < 3) (hr : (M.Rf x i).role = 2) (ht : tm < (M.Rf x i).hard.term) : kn.length ≤ (M.Rf x i).log.length ∧ beginsB kn (M.Rf x i).log = true := by
  obtain ⟨l1, l2, _⟩ := (h.inv.inv.node i hi).lead hr
  have := h.kn.leads h.inv.inv.gi ht (by omega)
  rw [l2] at this
  refine ⟨this.2.1, sameB_eq ?_⟩
  rw [Nat.min_eq_left this.2.1]
  exact this.2.2
end
end Go.Proofs.Ytodmihpmbecncaa
