/-
  Walk of the cluster's arrive: a message arrives. Condition: what is stored is what the replicas have.
-/
import Derived.Test.YtodmihpmbecncaaClD
namespace Go.Proofs.Ytodmihpmbecncaa
open Go.RowKit

theorem sub27 (A : Option Addr) (len cap : Nat) (lo : Int) (h0 : 0 ≤ lo) (h1 : lo ≤ len) (hc : len ≤ cap) (w : World) :
    (Instr.slice 27 (.slice A len cap) (some (.int .i64 lo)) none none).run Try.prog w = .ok (subv A 9 lo.toNat (len - lo.toNat) (cap - lo.toNat)) w := by
  obtain ⟨i, h3, _, h4, _⟩ := info_parts info37
  rw [run_slice_l (P := Try.prog) (w := w) 27 A len cap Try.underlying27 _ lo h0 h1]
  have : Try.prog.elem 27 = 37 := by kernel_rfl
  rw [this, sizeOf_run 37 i h3, h4]
  simp only [Result.andThen_ok]
  rw [sliced_sub _ _ _ _ _ (by omega)]
theorem subHi27 (A : Option Addr) (len cap : Nat) (hi : Int) (h0 : 0 ≤ hi) (h1 : hi ≤ cap) (w : World) :
    (Instr.slice 27 (.slice A len cap) none (some (.int .i64 hi)) none).run Try.prog w = .ok (subv A 9 0 hi.toNat cap) w := by
  obtain ⟨i, h3, _, h4, _⟩ := info_parts info37
  rw [run_slice_h (P := Try.prog) (w := w) 27 A len cap Try.underlying27 _ hi h0 h1]
  have : Try.prog.elem 27 = 37 := by kernel_rfl
  rw [this, sizeOf_run 37 i h3, h4]
  simp only [Result.andThen_ok]
  rw [sliced_sub _ _ _ _ _ (by omega)]
  rfl
theorem msgsCells_drop : ∀ (ps : List (Msg × Value)) (k : Nat), msgsCells (ps.drop k) = (msgsCells ps).drop (k * 9)
  | [], k => by simp [msgsCells]
  | x :: xs, 0 => by simp
  | x :: xs, k + 1 => by
    rw [List.drop_succ_cons, msgsCells_drop xs k, show (k + 1) * 9 = (k * 9) + 1 + 1 + 1 + 1 + 1 + 1 + 1 + 1 + 1 from by omega]
    simp [msgsCells, msgCells]
theorem msgsCells_take : ∀ (ps : List (Msg × Value)) (k : Nat), msgsCells (ps.take k) = (msgsCells ps).take (k * 9)
  | [], k => by simp [msgsCells]
  | x :: xs, 0 => by simp [msgsCells]
  | x :: xs, k + 1 => by
    rw [List.take_succ_cons, show (k + 1) * 9 = (k * 9) + 1 + 1 + 1 + 1 + 1 + 1 + 1 + 1 + 1 from by omega]
    have := msgsCells_take xs k
    simp only [msgsCells, List.flatMap_cons, msgCells, List.cons_append, List.nil_append, List.take_succ_cons] at *
    rw [this]
theorem msgs_take_slice {W : World} {ok : Nat → Prop} {A : Option Addr} {c : Nat} {ps : List (Msg × Value)} (h : Sl W ok 9 (.slice A ps.length c) ps.length (msgsCells ps)) (P : Int) (h0 : 0 ≤ P) (hk : P ≤ ps.length) :
    ∃ sv, Sl W ok 9 sv (ps.take P.toNat).length (msgsCells (ps.take P.toNat)) ∧ ∀ W, (Instr.slice 27 (.slice A ps.length c) none (some (.int .i64 P)) none).run Try.prog W = .ok sv W := by
  have hc : ps.length ≤ c := by
    obtain ⟨_, _, A', c', hA, h1, _⟩ := h
    cases hA; exact h1
  have h1 := h.sub 0 P.toNat (Nat.zero_le _) (by omega)
  have e1 : ((msgsCells ps).drop (0 * 9)).take ((P.toNat - 0) * 9) = msgsCells (ps.take P.toNat) := by
    rw [msgsCells_take]; simp
  rw [e1] at h1
  have e2 : (ps.take P.toNat).length = P.toNat - 0 := by rw [List.length_take]; omega
  rw [e2]
  refine ⟨_, h1, fun W' => ?_⟩
  have := subHi27 A ps.length c P (by omega) (by omega) W'
  simpa using this
theorem msgs_drop_slice {W : World} {ok : Nat → Prop} {A : Option Addr} {c : Nat} {ps : List (Msg × Value)} (h : Sl W ok 9 (.slice A ps.length c) ps.length (msgsCells ps)) (P : Int) (h0 : 0 ≤ P) (hk : P ≤ ps.length) :
    ∃ sv, Sl W ok 9 sv (ps.drop P.toNat).length (msgsCells (ps.drop P.toNat)) ∧ ∀ W, (Instr.slice 27 (.slice A ps.length c) (some (.int .i64 P)) none none).run Try.prog W = .ok sv W := by
  have hc : ps.length ≤ c := by
    obtain ⟨_, _, A', c', hA, h1, _⟩ := h
    cases hA; exact h1
  have h1 := h.sub P.toNat ps.length (by omega) (Nat.le_refl _)
  have e1 : ((msgsCells ps).drop (P.toNat * 9)).take ((ps.length - P.toNat) * 9) = msgsCells (ps.drop P.toNat) := by
    rw [← msgsCells_drop]
    exact List.take_of_length_le (by rw [msgsCells_length, List.length_drop]; omega)
  rw [e1] at h1
  rw [List.length_drop]
  refine ⟨_, h1, fun W' => ?_⟩
  have := sub27 A ps.length c P h0 hk hc W'
  simpa using this

section
variable {w W : World} {cb : Nat} {x x1 : M.Cl} {L L1 : Lay} {o : Out} {orv osv : Value}

/-- The messages in flight are laid anew. -/
theorem ClOk.putM {w1 : World} (h : ClOk w cb x L) {ps : List (Msg × Value)} {A' : Option Addr} {c' : Nat} (hb : Below w.heap.size w w1) (hpr : ∀ p ∈ ps, w.ownsRow 0 55 2 p.2 p.1.recs.length (recsCells p.1.recs) ∧ ∀ k, p.2.ownBlock = some k → ¬ rowsX L k)
    (hown : w1.ownsRow w.heap.size 37 9 (.slice A' ps.length c') ps.length (msgsCells ps)) (hl : ps.length ≤ 300) :
    ClOk (w1.setCell ⟨cb, 2, none⟩ (.slice A' ps.length c')) cb { x with sent := ps.map Prod.fst } { L with mA := A', mc := c' } := by
  have h1 := h.below hb
  have hn : (ps.map Prod.fst).length = ps.length := by simp
  have hF : Fr (fun k => k = cb) w1 (w1.setCell ⟨cb, 2, none⟩ (.slice A' ps.length c')) := fr_setCell w1 ⟨cb, 2, none⟩ _
  have hne : ∀ {k T}, Kind w1 k T → T ≠ 34 → ¬ k = cb := fun hk hT e => hk.ne h1.kind hT e
  refine ⟨?_, h.rN, h.sN, by rw [hn]; exact hl, own_fr h1.rrow hF (fun k hk => hne (own_kind h1.rrow hk) (by decide)), own_fr h1.srow hF (fun k hk => hne (own_kind h1.srow hk) (by decide)), fun j hj => (h1.rep j hj).fr hF (fun k hk => ?_), fun j hj => ⟨own_fr (h1.slog j hj).1 hF (fun k hk => hne (own_kind (h1.slog j hj).1 hk) (by decide)), (h.slog j hj).2⟩, ?_, h.sepB, h.sepA⟩
  · have := set_blk h1.blk 2 (.slice A' ps.length c')
    simp only [hn]
    exact this
  · rcases hk with rfl | ⟨ad, e1, rfl⟩
    · exact hne (h1.bkind hj) (by decide)
    · exact hne (h1.akind hj e1) (by decide)
  · refine ⟨ps, rfl, ?_, fun p hp' => ?_⟩
    · simp only [hn]
      exact own_mono (own_fr hown hF (fun k hk => hne (own_kind hown hk) (by decide))) (Nat.zero_le _)
    · have := own_below (hpr p hp').1 hb (Nat.le_refl _)
      exact ⟨own_fr this hF (fun k hk => hne (own_kind this hk) (by decide)), (hpr p hp').2⟩

theorem new_of_wf {i : Nat} {r : Rep} {s : M.St} (W : M.WF r) (hid : r.id = i) (h1 : s.hard = r.hard) (h2 : s.log = r.log) : M.new i s.hard s.log = some (M.made i s) := by
  unfold M.new M.made
  rw [h1, h2]
  have a := W.id0
  have b := W.id2
  rw [hid] at a b
  have hs := W.logOk
  rw [if_pos]
  simp only [M.between, Bool.and_eq_true, decide_eq_true_eq]
  exact ⟨⟨⟨⟨⟨a, b⟩, W.term0, W.termM⟩, W.vote0, W.vote2⟩, W.len⟩, hs⟩

/-- A replica has been called: done with what it hands back. -/
theorem after_done {w2 : World} (h : ClOk W cb x L) {g : M.Gh} (P : M.PInv x g) {i : Nat} (hi : i < 3) {r' : Rep} {o : Out} {A' : Option Addr} {cap' : Nat} {rv sv : Value}
    (hR : RepOk w2 (L.bs i) r' A' cap') (hA : FreshRow W w2 (L.As i) A' o rv sv) (hO : OutOk w2 W.heap.size o rv sv) (hF : Fr (RepS (L.bs i) (L.As i)) W w2)
    (hst : M.Stores (M.Rf x i) r' o) (hid : r'.id = (M.Rf x i).id) (hfr : o.fr ≤ 1000000) :
    Calls Try.prog 12 #[ptrV cb, .int .i64 i, outVal o rv sv] w2 (ClPost W cb L (M.done { x with r := x.r.set i r' } i o)) := by
  have hA2 : A' = L.As i ∨ ∀ ad, A' = some ad → W.heap.size ≤ ad.block := hA.imp id (fun h ad e => (h ad e).1)
  have h2 := h.call hi hR hA2 hF
  have hWF : M.WF (M.Rf x i) := (h.rep i hi).wf
  have hidi : (M.Rf x i).id = i := (P.inv.node i hi).id
  obtain ⟨s1, s2⟩ := P.st i hi
  have hk : (M.kept (x.s.getD i M.zSt) o).hard = r'.hard ∧ (M.kept (x.s.getD i M.zSt) o).log = r'.log := by
    unfold M.kept
    rw [s1, s2]
    exact hst
  have hX : ∀ k, W.heap.size ≤ k → ∀ j, j < 3 → j ≠ i → ∀ ad, L.As j = some ad → ad.block ≠ k := fun k hk j hj _ ad e he => by
    have := (h.akind hj e).lt
    omega
  have hsendX : MsgsX w2 (rowsX { L with As := M.up L.As i A', caps := M.up L.caps i cap' }) sv o.send := by
    have key : ∀ base, W.heap.size ≤ base → (∀ ad, A' = some ad → ad.block < base) → MsgsOk w2 base sv o.send → MsgsX w2 (rowsX { L with As := M.up L.As i A', caps := M.up L.caps i cap' }) sv o.send := fun base hb1 hb2 hm => by
      refine MsgsX.of hm fun k hk hx => ?_
      obtain ⟨j, hj, ad, e, e2⟩ := hx
      change M.up L.As i A' j = some ad at e
      by_cases hji : j = i
      · subst hji
        rw [M.up_at] at e
        have := hb2 ad e
        omega
      · rw [M.up_ne _ _ hji] at e
        exact hX k (by omega) j hj hji ad e e2
    rcases hA with hA | hA
    · exact key W.heap.size (Nat.le_refl _) (fun ad e => (h.akind hi (by rw [← hA]; exact e)).lt) hO.send
    · cases hA' : A' with
      | none => rw [hA'] at key; exact key W.heap.size (Nat.le_refl _) (fun ad e => by cases e) hO.send
      | some ad =>
        obtain ⟨q1, _, q3⟩ := hA ad hA'
        rw [hA'] at key
        exact key (ad.block + 1) (by omega) (fun ad' e => by cases e; omega) q3
  refine (done_calls h2 hi o rv sv (own_mono hO.recs (Nat.zero_le _)) hsendX (fun ad e hs => ?_) (by dsimp only; rw [s2]; exact hWF.len) (fun h0 => ⟨hfr, ?_⟩) (fun _ => new_of_wf hWF hidi s1 s2) (fun _ => new_of_wf hR.wf (hid.trans hidi) hk.1 hk.2)).mono fun e w3 hp => ClPost.of hp (fun k hk hc => ?_) (hF.mono fun k hk => .inl (.inr (.inr (.inr (.inr ⟨i, hi, hk⟩)))))
  · change L.mA = some ad at e
    obtain ⟨ps, _, p2, _⟩ := hO.send
    have := (own_lt p2 hs).1
    have := (h.mkind e).lt
    omega
  · have := hst.2
    rw [if_pos h0] at this
    have hl := congrArg List.length this
    rw [List.length_append] at hl
    have := hR.wf.len
    omega
  · rcases hc with hc | hc | hc | hc | ⟨j, hj, hc⟩
    · exact .inl hc
    · exact .inr (.inl hc)
    · exact .inr (.inr (.inl hc))
    · exact .inr (.inr (.inr (.inl hc)))
    · refine .inr (.inr (.inr (.inr ⟨j, hj, ?_⟩)))
      rcases hc with hc | ⟨ad, e, e2⟩
      · exact .inl hc
      · change M.up L.As i A' j = some ad at e
        by_cases hji : j = i
        · subst hji
          rw [M.up_at] at e
          rcases hA2 with hA2 | hA2
          · exact .inr ⟨ad, by rw [← hA2]; exact e, e2⟩
          · have := hA2 ad e; omega
        · rw [M.up_ne _ _ hji] at e
          exact .inr ⟨ad, e, e2⟩
end
end Go.Proofs.Ytodmihpmbecncaa
