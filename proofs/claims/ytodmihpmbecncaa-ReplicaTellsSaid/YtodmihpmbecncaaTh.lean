/-
  A term and a vote as an argument: opened to two numbers. No condition.
-/
import Derived.Test.YtodmihpmbecncaaTr
import Derived.ChangeSame
namespace Go.Proofs.Ytodmihpmbecncaa
open Go.ChangeShapes Go.WideShapes Go.ChangeAt Go.RowKit Go.Deep

theorem list_two {α : Type} (l : List α) (h : l.length = 2) : ∃ a b, l = [a, b] := by
  match l, h with
  | [a, b], _ => exact ⟨a, b, rfl⟩
theorem open_hard2 {H : Type} {enc : TypeId × Value → H} {W : World} {base : Nat} {sp : Nat → Bool} {held : Bool} {fuel : Nat} {u0 u1 : Value} {x : DataW H × List MemPlace}
    (h : DataW.trod enc Try.prog W base sp held fuel 40 [u0, u1] = some x) : ∃ hd : Hard, u0 = .int .i64 hd.term ∧ u1 = .int .i64 hd.vote := by
  obtain ⟨xs, k, hk, hxy, _, hxl, hf⟩ := DataW.trod_struct Try.underlying40 h
  obtain ⟨y0, y1, rfl⟩ := list_two xs hxl
  have g0 := hf 0 _ rfl
  have g1 := hf 1 _ rfl
  have c3 : Try.prog.cellsOf 3 = 1 := by kernel_rfl
  simp [c3] at g0 g1
  obtain ⟨k0, e0, _, _⟩ := DataW.trod_int Try.underlying3 g0
  obtain ⟨k1, e1, _, _⟩ := DataW.trod_int Try.underlying3 g1
  injection e0 with e0
  injection e1 with e1
  exact ⟨⟨k0, k1⟩, e0, e1⟩
theorem agg_cells2 (u0 u1 : Value) : (Value.agg #[u0, u1]).cells.toList = [u0, u1] := rfl
theorem open_hard {H : Type} {enc : TypeId × Value → H} {W : World} {base : Nat} {sp : Nat → Bool} {held : Bool} {fuel : Nat} {cs : Array Value} {x : DataW H × List MemPlace}
    (h : DataW.trod enc Try.prog W base sp held fuel 40 (Value.agg cs).cells.toList = some x) (hs : cs.size = 2) : ∃ hd : Hard, cs = #[.int .i64 hd.term, .int .i64 hd.vote] := by
  obtain ⟨u0, u1, hl⟩ := list_two cs.toList (by simpa using hs)
  have e : cs = #[u0, u1] := by rw [← hl]
  subst e
  rw [agg_cells2] at h
  obtain ⟨hd, rfl, rfl⟩ := open_hard2 h
  exact ⟨hd, rfl⟩
end Go.Proofs.Ytodmihpmbecncaa
