/-
  The operations of law 08 as an argument: opened to cells. No condition.
-/
import Derived.Test.YtodmihpmbecncaaClI
import Derived.ProofKit
import Derived.Deep.Slices
namespace Go.Proofs.Ytodmihpmbecncaa
open Go.ChangeShapes Go.WideShapes Go.ChangeAt Go.RowKit Go.Deep

instance : Inhabited M.Op := ⟨⟨0, 0, 0, ⟨#[]⟩⟩⟩

theorem opsCells_length (l : List M.Op) : (opsCells l).length = l.length * 4 := by
  induction l with
  | nil => rfl
  | cons x xs ih => simp only [opsCells, List.flatMap_cons, List.length_append, List.length_cons] at *; simp [opC] at *; omega
theorem opsCells_get (l : List M.Op) (i r : Nat) (hi : i < l.length) (hr : r < 4) : (opsCells l)[i * 4 + r]? = (opC l[i])[r]? := by
  obtain ⟨h0, h1, h2, h3⟩ := opsCells_at l i hi
  have : r = 0 ∨ r = 1 ∨ r = 2 ∨ r = 3 := by omega
  rcases this with rfl | rfl | rfl | rfl
  · exact h0
  · exact h1
  · exact h2
  · exact h3

theorem open_ops {H : Type} {enc : TypeId × Value → H} {W : World} {base : Nat} {sp : Nat → Bool} {held : Bool} {fuel : Nat} {a : Option Addr} {len cap : Nat} {x : DataW H × List MemPlace}
    (h : DataW.trod enc Try.prog W base sp held fuel 22 [.slice a len cap] = some x) : ∃ l : List M.Op, l.length = len ∧ Sl W (fun _ => True) 4 (.slice a len cap) l.length (opsCells l) ∧ ∀ o ∈ l, o.data.size ≤ 9223372036854775807 := by
  rcases open_slice Try.underlying22 h with ⟨hcs, _⟩ | ⟨ad, len', cap', m, n, D, Pl, hcs, hb, hl, hm, hmm, _, hall⟩
  · simp only [List.cons.injEq, Value.slice.injEq, and_true] at hcs
    obtain ⟨rfl, rfl, rfl⟩ := hcs
    exact ⟨[], rfl, Sl.of_own (World.ownsRow_nil W 0 30 4) |>.mono (fun _ _ _ => trivial), fun o ho => by cases ho⟩
  · simp only [List.cons.injEq, Value.slice.injEq, and_true] at hcs
    obtain ⟨rfl, rfl, rfl⟩ := hcs
    have hlm : len ≤ m := by rw [hmm]; split <;> omega
    have hce : Try.prog.cellsOf 30 = 4 := by kernel_rfl
    have each : ∀ i, i < len → ∃ o : M.Op, (∀ r, r < 4 → W.cell? (ad.add (i * 4 + r)) = (opC o)[r]?) ∧ o.data.size ≤ 9223372036854775807 := by
      intro i hi
      obtain ⟨cs', h1, h2⟩ := hall i (by omega)
      rw [hce] at h1
      obtain ⟨_, hcl, hcell⟩ := World.cells?_some h1
      obtain ⟨xs, k, hk, hxy, _, hxl, hf⟩ := DataW.trod_struct Try.underlying30 h2
      match xs, hxl, cs', hcl with
      | [y0, y1, y2, y3], _, [v0, v1, v2, v3], _ =>
        have g0 := hf 0 _ rfl
        have g1 := hf 1 _ rfl
        have g2 := hf 2 _ rfl
        have g3 := hf 3 _ rfl
        have c3 : Try.prog.cellsOf 3 = 1 := by kernel_rfl
        have c9 : Try.prog.cellsOf 9 = 1 := by kernel_rfl
        simp [c3, c9] at g0 g1 g2 g3
        obtain ⟨n0, e0, _, _⟩ := DataW.trod_int Try.underlying3 g0
        obtain ⟨n1, e1, _, _⟩ := DataW.trod_int Try.underlying3 g1
        obtain ⟨n2, e2, _, _⟩ := DataW.trod_int Try.underlying3 g2
        obtain ⟨sd, e3, _, hsz⟩ := DataW.trod_string Try.underlying9 g3
        injection e0 with e0
        injection e1 with e1
        injection e2 with e2
        injection e3 with e3
        subst e0 e1 e2 e3
        refine ⟨⟨n0, n1, n2, sd⟩, fun r hr => ?_, by simp only [maxLen] at hsz; exact hsz⟩
        have := hcell r hr
        rw [add_add] at this
        exact this
    obtain ⟨f, hf⟩ := choose_lt each
    refine ⟨(List.range len).map f, by simp, ?_, fun o ho => ?_⟩
    · have hlen : ((List.range len).map f).length = len := by simp
      rw [hlen]
      refine ⟨by rw [opsCells_length, hlen], by simp only [maxLen] at hm; omega, some ad, cap, rfl, hl, by simp only [maxLen] at hm; exact hm, ?_⟩
      rcases Nat.eq_zero_or_pos len with h0 | h0
      · exact .inl h0
      · obtain ⟨b, off, spot⟩ := ad
        have hz := (hf 0 h0).1 0 (by omega)
        have hsp : spot = none := by
          cases spot with
          | none => rfl
          | some s =>
            exfalso
            simp [World.cell?, Addr.add, opC] at hz
            split at hz <;> simp at hz
        subst hsp
        have hlt : b < W.heap.size := by
          rcases Nat.lt_or_ge b W.heap.size with q | q
          · exact q
          · simp [World.cell?, Addr.add, opC, Array.getElem?_eq_none q] at hz
        refine .inr ⟨b, off, rfl, trivial, hlt, fun j u hu => ?_⟩
        have hjl : j < len * 4 := by
          rcases Nat.lt_or_ge j (len * 4) with q | q
          · exact q
          · rw [List.getElem?_eq_none (by rw [opsCells_length, hlen]; exact q)] at hu; cases hu
        have hj : j = j / 4 * 4 + j % 4 := by omega
        have hi : j / 4 < len := by omega
        have h1 := (hf (j / 4) hi).1 (j % 4) (Nat.mod_lt _ (by decide))
        rw [← hj, Addr.add_lit] at h1
        rw [h1, ← hu]
        conv => rhs; rw [hj]
        rw [opsCells_get _ _ _ (by rw [hlen]; exact hi) (Nat.mod_lt _ (by decide))]
        simp
    · obtain ⟨i, hi, rfl⟩ := List.mem_map.1 ho
      exact (hf i (List.mem_range.1 hi)).2

theorem Try.own : ownKnob Try.prog.godebug = none := by kernel_rfl
theorem Try.laidOut : laidOutB Try.prog = true := by kernel_rfl
end Go.Proofs.Ytodmihpmbecncaa
