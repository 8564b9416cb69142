/-
  append onto a slice that is owned, from any slice that is read alone: a law for the walk at the element types of the replica (entries and messages). No condition.
-/
import Derived.Test.YtodmihpmbecncaaBase
namespace Go.Proofs.Ytodmihpmbecncaa
open Go.RowKit

theorem info55 : (Try.prog.info? 55).map (fun i => (i.zero, i.size, i.bytes)) = some (some (.agg #[.int .i64 0, .string ⟨#[]⟩]), 2, 24) := by kernel_rfl
theorem info37 : (Try.prog.info? 37).map (fun i => (i.zero, i.size, i.bytes)) = some (some (.agg #[.int .i64 0, .int .i64 0, .int .i64 0, .int .i64 0, .int .i64 0, .int .i64 0, .int .i64 0, .bool false, .slice none 0 0]), 9, 88) := by kernel_rfl

theorem run_append_sl {P : Program} (w : World) (base : Nat) (t ty e : TypeId) (i : TypeInfo) (z : Value) (size bytes : Nat) (ht : P.underlying t = some (.slice e)) (hi : P.info? e = some i) (hz : i.zero = some z)
    (hsize : i.size = size) (hby : i.bytes = bytes) (hzs : z.cells.size = size) (hsz : 0 < size)
    (v : Value) (n : Nat) (xs : List Value) (hown : w.ownsRow base e size v n xs)
    (ok : Nat → Prop) (v2 : Value) (m : Nat) (news : List Value) (hs : Sl w ok size v2 m news) (h1 : ∀ u ∈ news, u.oneCell' = true)
    (h63 : n + m ≤ maxLen) (hbytes : (n + m) * bytes ≤ 140737488355328) (hbase : base ≤ w.heap.size) :
    ∃ v' w', (Builtin.append_ #[t, t] ty #[v, v2]).run P w = .ok v' w' ∧ w'.ownsRow base e size v' (n + m) (xs ++ news) ∧ w.grownBy w' v.ownBlock ∧
      (v'.ownBlock = v.ownBlock ∨ v'.ownBlock = some w.heap.size) := by
  obtain ⟨hl, hm63, A, c, rfl, _, _, h4⟩ := hs
  cases A with
  | some ad =>
    rcases h4 with rfl | ⟨b, off, hA, _, _, hc⟩
    · have hn : news = [] := List.eq_nil_of_length_eq_zero (by simpa using hl)
      subst hn
      obtain ⟨v', w', a1, a2, a3, _, a5⟩ := run_append_own_at w base t ty e i z size bytes ht hi hz hsize hby hzs hsz v n xs hown ad 0 c [] hl (fun j u h => by simp at h) h1 h63 hbytes hbase
      exact ⟨v', w', a1, a2, a3, a5⟩
    · cases hA
      obtain ⟨v', w', a1, a2, a3, _, a5⟩ := run_append_own_at w base t ty e i z size bytes ht hi hz hsize hby hzs hsz v n xs hown ⟨b, off, none⟩ m c news hl (fun j u h => by rw [Addr.add_lit]; exact hc j u h) h1 h63 hbytes hbase
      exact ⟨v', w', a1, a2, a3, a5⟩
  | none =>
    have h0 : m = 0 := by
      rcases h4 with h | ⟨b, off, hA, _⟩
      · exact h
      · cases hA
    subst h0
    have hn : news = [] := List.eq_nil_of_length_eq_zero (by simpa using hl)
    subst hn
    refine ⟨v, w, ?_, by simpa using hown, ⟨rfl, rfl, rfl, Nat.le_refl _, fun _ _ _ => rfl⟩, Or.inl rfl⟩
    rcases hown.2 with ⟨rfl, rfl⟩ | ⟨g, cap, cur, rfl, hbg, hg, hnc, _⟩
    · simp [Builtin.append_, run_underlying ht, sizeOf, typeInfo, hi, Builtin.lenOf, Builtin.firstCells]
    · simp [Builtin.append_, run_underlying ht, sizeOf, typeInfo, hi, Builtin.lenOf, Builtin.firstCells, hnc, storeCells]

theorem wpList_append_sl {P : Program} (w : World) {ops : Array Oper} {rest : List Oper} {o : Oper} {a : Act} {Q : Exit → Act → World → Prop} (hgd : o.guard = none) (s x : Operand) (t : TypeId)
    (ho : o.op = .call { callee := .builtin .append, args := #[s, x], argTypes := #[t, t] })
    (base : Nat) (e : TypeId) (z : Value) (size bytes : Nat) (ht : P.underlying t = some (.slice e)) (hi : (P.info? e).map (fun i => (i.zero, i.size, i.bytes)) = some (some z, size, bytes))
    (hzs : z.cells.size = size) (hsz : 0 < size)
    (v : Value) (n : Nat) (xs : List Value) (hs : a.eval s = v) (hown : w.ownsRow base e size v n xs)
    (ok : Nat → Prop) (v2 : Value) (m : Nat) (news : List Value) (hx : a.eval x = v2) (hsl : Sl w ok size v2 m news) (h1 : ∀ u ∈ news, u.oneCell' = true)
    (h63 : n + m ≤ maxLen) (hbytes : (n + m) * bytes ≤ 140737488355328) (hbase : base ≤ w.heap.size)
    (h : ∀ v' w', w'.ownsRow base e size v' (n + m) (xs ++ news) → w.grownBy w' v.ownBlock → (v'.ownBlock = v.ownBlock ∨ v'.ownBlock = some w.heap.size) → wpList P ops Q rest (a.put o.dst v') w') :
    wpList P ops Q (o :: rest) a w := by
  refine wpList_plain hgd fun K hK => ?_
  obtain ⟨i, h2, h3, h4, h5⟩ := info_parts hi
  obtain ⟨v', w', hr, h6, h7, h8⟩ := run_append_sl (P := P) w base t o.type e i z size bytes ht h2 h3 h4 h5 hzs hsz v n xs hown ok v2 m news hsl h1 h63 hbytes hbase
  unfold Oper.wp execOp
  simp only [ho, resolve, invoke, builtin, Sem.run_bind, Sem.run_pure, Result.andThen_ok, List.map_toArray, List.map_cons, List.map_nil, hs, hx, hr]
  exact hK _ _ (h v' w' h6 h7 h8)

theorem sizeOf_run {P : Program} (e : TypeId) (i : TypeInfo) (hi : P.info? e = some i) (w : World) : (sizeOf e).run P w = .ok i.size w := by
  simp [sizeOf, typeInfo, hi]
theorem sliced_sub (A : Option Addr) (lo hi cap sz : Nat) (h : lo ≤ cap) : sliced A lo hi cap sz = subv A sz lo (hi - lo) (cap - lo) := by
  unfold sliced subv
  by_cases hc : cap = lo
  · rw [if_pos hc, if_pos (by omega)]
  · rw [if_neg hc, if_neg (by omega)]
theorem sub35 (A : Option Addr) (len cap : Nat) (lo hi : Int) (h0 : 0 ≤ lo) (h1 : lo ≤ hi) (h2 : hi ≤ cap) (w : World) :
    (Instr.slice 35 (.slice A len cap) (some (.int .i64 lo)) (some (.int .i64 hi)) none).run Try.prog w = .ok (subv A 2 lo.toNat (hi.toNat - lo.toNat) (cap - lo.toNat)) w := by
  obtain ⟨i, h3, _, h4, _⟩ := info_parts info55
  rw [run_slice_lh (P := Try.prog) (w := w) 35 A len cap Try.underlying35 _ _ lo hi h0 h1 h2]
  have : Try.prog.elem 35 = 55 := by kernel_rfl
  rw [this, sizeOf_run 55 i h3, h4]
  simp only [Result.andThen_ok]
  rw [sliced_sub _ _ _ _ _ (by omega)]
theorem subLo35 (A : Option Addr) (len cap : Nat) (lo : Int) (h0 : 0 ≤ lo) (h1 : lo ≤ len) (hc : len ≤ cap) (w : World) :
    (Instr.slice 35 (.slice A len cap) (some (.int .i64 lo)) none none).run Try.prog w = .ok (subv A 2 lo.toNat (len - lo.toNat) (cap - lo.toNat)) w := by
  obtain ⟨i, h3, _, h4, _⟩ := info_parts info55
  rw [run_slice_l (P := Try.prog) (w := w) 35 A len cap Try.underlying35 _ lo h0 h1]
  have : Try.prog.elem 35 = 55 := by kernel_rfl
  rw [this, sizeOf_run 55 i h3, h4]
  simp only [Result.andThen_ok]
  rw [sliced_sub _ _ _ _ _ (by omega)]
theorem subHi35 (A : Option Addr) (len cap : Nat) (hi : Int) (h0 : 0 ≤ hi) (h1 : hi ≤ cap) (w : World) :
    (Instr.slice 35 (.slice A len cap) none (some (.int .i64 hi)) none).run Try.prog w = .ok (subv A 2 0 hi.toNat cap) w := by
  obtain ⟨i, h3, _, h4, _⟩ := info_parts info55
  rw [run_slice_h (P := Try.prog) (w := w) 35 A len cap Try.underlying35 _ hi h0 h1]
  have : Try.prog.elem 35 = 55 := by kernel_rfl
  rw [this, sizeOf_run 55 i h3, h4]
  simp only [Result.andThen_ok]
  rw [sliced_sub _ _ _ _ _ (by omega)]
  rfl

/-- A new, empty row. -/
theorem own_new (w : World) (e sz : Nat) : (w.alloc (.cells #[] e)).ownsRow w.heap.size e sz (.slice (some ⟨w.heap.size, 0, none⟩) 0 0) 0 [] :=
  World.ownsRow_made w #[] 0 (Nat.le_refl _) (by simp [maxLen]) (by simp)

/-- A whole struct is stored into a block that is known whole. -/
theorem wpList_store_list {P : Program} {ops : Array Oper} {rest : List Oper} {o : Oper} {a : Act} {w : World} {Q : Exit → Act → World → Prop} (hgd : o.guard = none) (ty : TypeId) (x y : Operand) (ho : o.op = .store ty x y)
    (g : Nat) (cells : Array Value) (hx : a.eval x = .pointer (some ⟨g, 0, none⟩)) (hy : a.eval y = .agg cells)
    (t : TypeId) (old : Array Value) (hg : w.heap[g]? = some (.cells old t (0, 0))) (n : Nat) (hi : (P.info? ty).map (·.size) = some n) (hc : cells.size = n)
    (hold : old.size = n) (h1 : cells.toList.all (·.oneCell') = true)
    (h : wpList P ops Q rest (a.put o.dst undef) (w.setRow g cells)) : wpList P ops Q (o :: rest) a w :=
  wpList_store_row hgd ty x y ho g cells hx hy t old hg (by rw [hi, hc]) (by rw [hold, hc]) (by simpa using h1) h
theorem size37 : (Try.prog.info? 37).map (·.size) = some 9 := by kernel_rfl
theorem size45 : (Try.prog.info? 45).map (·.size) = some 6 := by kernel_rfl
theorem size55 : (Try.prog.info? 55).map (·.size) = some 2 := by kernel_rfl
theorem size40 : (Try.prog.info? 40).map (·.size) = some 2 := by kernel_rfl
end Go.Proofs.Ytodmihpmbecncaa
