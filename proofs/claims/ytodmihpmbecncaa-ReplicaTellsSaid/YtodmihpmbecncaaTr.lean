/-
  Lists of entries and of messages as arguments: opened to cells. No condition.
-/
import Derived.Test.YtodmihpmbecncaaRow
import Derived.Test.YtodmihpmbecncaaClD
namespace Go.Proofs.Ytodmihpmbecncaa
open Go.ChangeShapes Go.WideShapes Go.ChangeAt Go.RowKit Go.Deep

instance : Inhabited Rec := ⟨M.zRec⟩
instance : Inhabited Msg := ⟨M.zMsg⟩

theorem recsCells_get (l : List Rec) (i r : Nat) (hi : i < l.length) (hr : r < 2) : (recsCells l)[i * 2 + r]? = (recCells l[i])[r]? := by
  obtain ⟨h0, h1⟩ := recsCells_at l i hi
  have : r = 0 ∨ r = 1 := by omega
  rcases this with rfl | rfl
  · exact h0
  · exact h1

theorem open_recs {H : Type} {enc : TypeId × Value → H} {W : World} {base : Nat} {sp : Nat → Bool} {held : Bool} {fuel : Nat} {v : Value} {x : DataW H × List MemPlace}
    (h : DataW.trod enc Try.prog W base sp held fuel 35 [v] = some x) : ∃ l : List Rec, Sl W (fun _ => True) 2 v l.length (recsCells l) := by
  rcases open_slice Try.underlying35 h with ⟨hcs, _⟩ | ⟨ad, len, cap, m, n, D, Pl, hcs, hb, hl, hm, hmm, _, hall⟩
  · simp only [List.cons.injEq, and_true] at hcs
    subst hcs
    exact ⟨[], Sl.of_own (World.ownsRow_nil W 0 55 2) |>.mono (fun _ _ _ => trivial)⟩
  · simp only [List.cons.injEq, and_true] at hcs
    subst hcs
    have hlm : len ≤ m := by rw [hmm]; split <;> omega
    have hce : Try.prog.cellsOf 55 = 2 := by kernel_rfl
    have each : ∀ i, i < len → ∃ o : Rec, ∀ r, r < 2 → W.cell? (ad.add (i * 2 + r)) = (recCells o)[r]? := by
      intro i hi
      obtain ⟨cs', h1, h2⟩ := hall i (by omega)
      rw [hce] at h1
      obtain ⟨_, hcl, hcell⟩ := World.cells?_some h1
      obtain ⟨xs, k, hk, hxy, _, hxl, hf⟩ := DataW.trod_struct Try.underlying55 h2
      match xs, hxl, cs', hcl with
      | [y0, y1], _, [v0, v1], _ =>
        have g0 := hf 0 _ rfl
        have g1 := hf 1 _ rfl
        have c3 : Try.prog.cellsOf 3 = 1 := by kernel_rfl
        have c9 : Try.prog.cellsOf 9 = 1 := by kernel_rfl
        simp [c3, c9] at g0 g1
        obtain ⟨n0, e0, _, _⟩ := DataW.trod_int Try.underlying3 g0
        obtain ⟨sd, e1, _, _⟩ := DataW.trod_string Try.underlying9 g1
        injection e0 with e0
        injection e1 with e1
        subst e0 e1
        refine ⟨⟨n0, sd⟩, fun r hr => ?_⟩
        have := hcell r hr
        rw [add_add] at this
        exact this
    obtain ⟨f, hf⟩ := choose_lt each
    refine ⟨(List.range len).map f, ?_⟩
    have hlen : ((List.range len).map f).length = len := by simp
    rw [hlen]
    refine ⟨by rw [recsCells_length, hlen], by simp only [maxLen] at hm; omega, some ad, cap, rfl, hl, by simp only [maxLen] at hm; exact hm, ?_⟩
    rcases Nat.eq_zero_or_pos len with h0 | h0
    · exact .inl h0
    · obtain ⟨b, off, spot⟩ := ad
      have hz := hf 0 h0 0 (by omega)
      have hsp : spot = none := by
        cases spot with
        | none => rfl
        | some s =>
          exfalso
          simp [World.cell?, Addr.add, recCells] at hz
          split at hz <;> simp at hz
      subst hsp
      have hlt : b < W.heap.size := by
        rcases Nat.lt_or_ge b W.heap.size with q | q
        · exact q
        · simp [World.cell?, Addr.add, recCells, Array.getElem?_eq_none q] at hz
      refine .inr ⟨b, off, rfl, trivial, hlt, fun j u hu => ?_⟩
      have hjl : j < len * 2 := by
        rcases Nat.lt_or_ge j (len * 2) with q | q
        · exact q
        · rw [List.getElem?_eq_none (by rw [recsCells_length, hlen]; exact q)] at hu; cases hu
      have hj : j = j / 2 * 2 + j % 2 := by omega
      have hi : j / 2 < len := by omega
      have h1 := hf (j / 2) hi (j % 2) (Nat.mod_lt _ (by decide))
      rw [← hj, Addr.add_lit] at h1
      rw [h1, ← hu]
      conv => rhs; rw [hj]
      rw [recsCells_get _ _ _ (by rw [hlen]; exact hi) (Nat.mod_lt _ (by decide))]
      simp

theorem open_msgs {H : Type} {enc : TypeId × Value → H} {W : World} {base : Nat} {sp : Nat → Bool} {held : Bool} {fuel : Nat} {v : Value} {x : DataW H × List MemPlace}
    (h : DataW.trod enc Try.prog W base sp held fuel 27 [v] = some x) : ∃ l : List (Msg × Value), Sl W (fun _ => True) 9 v l.length (msgsCells l) ∧ ∀ p ∈ l, Sl W (fun _ => True) 2 p.2 p.1.recs.length (recsCells p.1.recs) := by
  rcases open_slice Try.underlying27 h with ⟨hcs, _⟩ | ⟨ad, len, cap, m, n, D, Pl, hcs, hb, hl, hm, hmm, _, hall⟩
  · simp only [List.cons.injEq, and_true] at hcs
    subst hcs
    exact ⟨[], Sl.of_own (World.ownsRow_nil W 0 37 9) |>.mono (fun _ _ _ => trivial), fun p hp => by cases hp⟩
  · simp only [List.cons.injEq, and_true] at hcs
    subst hcs
    have hlm : len ≤ m := by rw [hmm]; split <;> omega
    have hce : Try.prog.cellsOf 37 = 9 := by kernel_rfl
    have each : ∀ i, i < len → ∃ o : Msg × Value, (∀ r, r < 9 → W.cell? (ad.add (i * 9 + r)) = (msgCells o.1 o.2)[r]?) ∧ Sl W (fun _ => True) 2 o.2 o.1.recs.length (recsCells o.1.recs) := by
      intro i hi
      obtain ⟨cs', h1, h2⟩ := hall i (by omega)
      rw [hce] at h1
      obtain ⟨_, hcl, hcell⟩ := World.cells?_some h1
      obtain ⟨xs, k, hk, hxy, _, hxl, hf⟩ := DataW.trod_struct Try.underlying37 h2
      match xs, hxl, cs', hcl with
      | [y0, y1, y2, y3, y4, y5, y6, y7, y8], _, [v0, v1, v2, v3, v4, v5, v6, v7, v8], _ =>
        have g0 := hf 0 _ rfl
        have g1 := hf 1 _ rfl
        have g2 := hf 2 _ rfl
        have g3 := hf 3 _ rfl
        have g4 := hf 4 _ rfl
        have g5 := hf 5 _ rfl
        have g6 := hf 6 _ rfl
        have g7 := hf 7 _ rfl
        have g8 := hf 8 _ rfl
        have c3 : Try.prog.cellsOf 3 = 1 := by kernel_rfl
        have c4 : Try.prog.cellsOf 4 = 1 := by kernel_rfl
        have c35 : Try.prog.cellsOf 35 = 1 := by kernel_rfl
        simp [c3, c4, c35] at g0 g1 g2 g3 g4 g5 g6 g7 g8
        obtain ⟨n0, e0, _, _⟩ := DataW.trod_int Try.underlying3 g0
        obtain ⟨n1, e1, _, _⟩ := DataW.trod_int Try.underlying3 g1
        obtain ⟨n2, e2, _, _⟩ := DataW.trod_int Try.underlying3 g2
        obtain ⟨n3, e3, _, _⟩ := DataW.trod_int Try.underlying3 g3
        obtain ⟨n4, e4, _, _⟩ := DataW.trod_int Try.underlying3 g4
        obtain ⟨n5, e5, _, _⟩ := DataW.trod_int Try.underlying3 g5
        obtain ⟨n6, e6, _, _⟩ := DataW.trod_int Try.underlying3 g6
        obtain ⟨b7, e7, _⟩ := DataW.trod_bool Try.underlying4 g7
        obtain ⟨l8, hl8⟩ := open_recs g8
        injection e0 with e0
        injection e1 with e1
        injection e2 with e2
        injection e3 with e3
        injection e4 with e4
        injection e5 with e5
        injection e6 with e6
        injection e7 with e7
        subst e0 e1 e2 e3 e4 e5 e6 e7
        refine ⟨(⟨n0, n1, n2, n3, n4, n5, n6, b7, l8⟩, v8), fun r hr => ?_, hl8⟩
        have := hcell r hr
        rw [add_add] at this
        exact this
    have : Inhabited (Msg × Value) := ⟨(M.zMsg, undef)⟩
    obtain ⟨f, hf⟩ := choose_lt each
    refine ⟨(List.range len).map f, ?_, fun p hp => ?_⟩
    · have hlen : ((List.range len).map f).length = len := by simp
      rw [hlen]
      refine ⟨by rw [msgsCells_length, hlen], by simp only [maxLen] at hm; omega, some ad, cap, rfl, hl, by simp only [maxLen] at hm; exact hm, ?_⟩
      rcases Nat.eq_zero_or_pos len with h0 | h0
      · exact .inl h0
      · obtain ⟨b, off, spot⟩ := ad
        have hz := (hf 0 h0).1 0 (by omega)
        have hsp : spot = none := by
          cases spot with
          | none => rfl
          | some s =>
            exfalso
            simp [World.cell?, Addr.add, msgCells] at hz
            split at hz <;> simp at hz
        subst hsp
        have hlt : b < W.heap.size := by
          rcases Nat.lt_or_ge b W.heap.size with q | q
          · exact q
          · simp [World.cell?, Addr.add, msgCells, Array.getElem?_eq_none q] at hz
        refine .inr ⟨b, off, rfl, trivial, hlt, fun j u hu => ?_⟩
        have hjl : j < len * 9 := by
          rcases Nat.lt_or_ge j (len * 9) with q | q
          · exact q
          · rw [List.getElem?_eq_none (by rw [msgsCells_length, hlen]; exact q)] at hu; cases hu
        have hj : j = j / 9 * 9 + j % 9 := by omega
        have hi : j / 9 < len := by omega
        have h1 := (hf (j / 9) hi).1 (j % 9) (Nat.mod_lt _ (by decide))
        rw [← hj, Addr.add_lit] at h1
        rw [h1, ← hu]
        conv => rhs; rw [hj]
        rw [msgsCells_at _ _ (by rw [hlen]; exact hi) _ (Nat.mod_lt _ (by decide))]
        simp
    · obtain ⟨i, hi, rfl⟩ := List.mem_map.1 hp
      exact (hf i (List.mem_range.1 hi)).2
end Go.Proofs.Ytodmihpmbecncaa
