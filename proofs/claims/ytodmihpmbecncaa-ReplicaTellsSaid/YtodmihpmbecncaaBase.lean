/-
  How the plain data of the replica (layer 8) lie in memory: words and small laws for the walks. No condition.
-/
import Derived.Test.YtodmihpmbecncaaRows
import Derived.Test.YtodmihpmbecncaaModel
import Derived.WalkKit
import Derived.WalkSpells
import Derived.WalkLawsBesides
import Derived.Deep.RegionHeld3
import Derived.Deep.QuietTactic
import Derived.BigQuiet
import Derived.Deep.AppendLies
import Derived.Deep.AppendSrc
import Derived.Lib.Hide
import Derived.StillTailTactics
namespace Go.Proofs.Ytodmihpmbecncaa
open Go.RowKit

theorem retb {a b : Bool} (h : a = b) : Ending.returned (.bool a) = Ending.returned (.bool b) := by rw [h]
theorem reti {a b : Int} (h : a = b) : Ending.returned (.int .i64 a) = Ending.returned (.int .i64 b) := by rw [h]

def recCells (x : Rec) : List Value := [.int .i64 x.term, .string x.data]
def recsCells (xs : List Rec) : List Value := xs.flatMap recCells
def bools (l : List Bool) : List Value := l.map .bool
def ints (l : List Int) : List Value := l.map (.int .i64)
def msgCells (m : Msg) (v : Value) : List Value :=
  [.int .i64 m.kind, .int .i64 m.fr, .int .i64 m.to, .int .i64 m.term, .int .i64 m.index, .int .i64 m.prev, .int .i64 m.commit, .bool m.yes, v]
def msgVal (m : Msg) (v : Value) : Value := .agg (msgCells m v).toArray
def msgsCells (ps : List (Msg × Value)) : List Value := ps.flatMap fun p => msgCells p.1 p.2
def outVal (o : Out) (rv sv : Value) : Value := .agg #[.bool o.save, .int .i64 o.hard.term, .int .i64 o.hard.vote, .int .i64 o.fr, rv, sv]
def repCells (r : Rep) (lv : Value) : List Value :=
  [.int .i64 r.id, .int .i64 r.hard.term, .int .i64 r.hard.vote, lv, .int .i64 r.role, .int .i64 r.commit] ++ bools r.votes ++ ints r.next ++ ints r.mtch

theorem recsCells_length (xs : List Rec) : (recsCells xs).length = xs.length * 2 := by
  induction xs with
  | nil => rfl
  | cons x xs ih => simp only [recsCells, List.flatMap_cons, List.length_append, List.length_cons] at *; simp [recCells] at *; omega

theorem msgsCells_length (ps : List (Msg × Value)) : (msgsCells ps).length = ps.length * 9 := by
  induction ps with
  | nil => rfl
  | cons x xs ih => simp only [msgsCells, List.flatMap_cons, List.length_append, List.length_cons] at *; simp [msgCells] at *; omega

theorem recsCells_at : ∀ (xs : List Rec) (i : Nat) (hi : i < xs.length), (recsCells xs)[i * 2]? = some (.int .i64 xs[i].term) ∧ (recsCells xs)[i * 2 + 1]? = some (.string xs[i].data) := by
  intro xs
  induction xs with
  | nil => intro i hi; simp at hi
  | cons x xs ih =>
    intro i hi
    cases i with
    | zero => exact ⟨rfl, rfl⟩
    | succ i =>
      have := ih i (by simpa using hi)
      simp only [recsCells, List.flatMap_cons, recCells, List.cons_append, List.nil_append] at *
      rw [show (i + 1) * 2 = i * 2 + 1 + 1 from by omega]
      simpa using this

theorem recsCells_append (xs ys : List Rec) : recsCells (xs ++ ys) = recsCells xs ++ recsCells ys := by simp [recsCells]
theorem recsCells_drop : ∀ (xs : List Rec) (k : Nat), recsCells (xs.drop k) = (recsCells xs).drop (k * 2)
  | [], k => by simp [recsCells]
  | x :: xs, 0 => by simp
  | x :: xs, k + 1 => by
    rw [List.drop_succ_cons, recsCells_drop xs k, show (k + 1) * 2 = (k * 2) + 1 + 1 from by omega]
    simp [recsCells, recCells]
theorem recsCells_take : ∀ (xs : List Rec) (k : Nat), recsCells (xs.take k) = (recsCells xs).take (k * 2)
  | [], k => by simp [recsCells]
  | x :: xs, 0 => by simp [recsCells]
  | x :: xs, k + 1 => by
    rw [List.take_succ_cons, show (k + 1) * 2 = (k * 2) + 1 + 1 from by omega]
    have := recsCells_take xs k
    simp only [recsCells, List.flatMap_cons, recCells, List.cons_append, List.nil_append, List.take_succ_cons] at *
    rw [this]
theorem recsCells_one : ∀ (xs : List Rec), ∀ u ∈ recsCells xs, u.oneCell' = true := by
  intro xs u hu
  obtain ⟨x, _, h⟩ := List.mem_flatMap.1 hu
  simp [recCells] at h
  rcases h with rfl | rfl <;> rfl

theorem addr_ne {b o o' : Nat} (h : o ≠ o') : (⟨b, o, none⟩ : Addr) ≠ ⟨b, o', none⟩ := fun e => h (by injection e)
theorem addr_neb {b b' o o' : Nat} (h : b ≠ b') : (⟨b, o, none⟩ : Addr) ≠ ⟨b', o', none⟩ := fun e => h (by injection e)

/-- The world under a name, with what is to be known of it. -/
theorem wp_world {P : Program} {c : Code} {Q : Exit → Act → World → Prop} {a : Act} {w : World} (F : World → Prop) (hF : F w) (h : ∀ W, F W → Code.wp P c Q a W) : Code.wp P c Q a w := h w hF

theorem calls_world {P : Program} {f : FuncId} {args : Array Value} {R : Ending → World → Prop} {w : World} (F : World → Prop) (hF : F w) (h : ∀ W, F W → Calls P f args W R) : Calls P f args w R := h w hF

/-! ### Blocks -/
theorem cell_blk {w : World} {b : Nat} {cs : List Value} {T : TypeId} (h : w.heap[b]? = some (.cells cs.toArray T)) (i : Nat) : w.cell? ⟨b, i, none⟩ = cs[i]? := by
  simp [World.cell?, h]
theorem free_blk {w : World} {b : Nat} {cs : List Value} {T : TypeId} (h : w.heap[b]? = some (.cells cs.toArray T)) (i : Nat) : w.frozen? ⟨b, i, none⟩ = false := by
  simp [World.frozen?, h]
theorem lt_blk {w : World} {b : Nat} {o : Obj} (h : w.heap[b]? = some o) : b < w.heap.size := by
  rcases Nat.lt_or_ge b w.heap.size with h' | h'
  · exact h'
  · rw [Array.getElem?_eq_none h'] at h; cases h
theorem set_blk {w : World} {b : Nat} {cs : List Value} {T : TypeId} (h : w.heap[b]? = some (.cells cs.toArray T)) (i : Nat) (v : Value) :
    (w.setCell ⟨b, i, none⟩ v).heap[b]? = some (.cells (cs.set i v).toArray T) := by
  simp only [World.setCell, Array.getElem?_modify, if_true, h, Option.map_some]
  simp
theorem other_blk {w : World} {a : Addr} {v : Value} {k : Nat} (h : k ≠ a.block) : (w.setCell a v).heap[k]? = w.heap[k]? := Below.heap_setCell w a v k h

/-- Outside the blocks S nothing that was there has changed. -/
structure Fr (S : Nat → Prop) (w w' : World) : Prop where
  os : w'.os = w.os
  tape : w'.tape = w.tape
  output : w'.output = w.output
  size : w.heap.size ≤ w'.heap.size
  block : ∀ k, k < w.heap.size → ¬ S k → w'.heap[k]? = w.heap[k]?
theorem Fr.refl (S : Nat → Prop) (w : World) : Fr S w w := ⟨rfl, rfl, rfl, Nat.le_refl _, fun _ _ _ => rfl⟩
theorem Fr.trans {S : Nat → Prop} {a b c : World} (h : Fr S a b) (k : Fr S b c) : Fr S a c :=
  ⟨k.os.trans h.os, k.tape.trans h.tape, k.output.trans h.output, Nat.le_trans h.size k.size, fun i hi hs => (k.block i (Nat.lt_of_lt_of_le hi h.size) hs).trans (h.block i hi hs)⟩
/-- A later step may also write blocks that were not there at first. -/
theorem Fr.trans2 {S S' : Nat → Prop} {a b c : World} (h : Fr S a b) (k : Fr S' b c) (hs : ∀ i, S' i → S i ∨ a.heap.size ≤ i) : Fr S a c :=
  ⟨k.os.trans h.os, k.tape.trans h.tape, k.output.trans h.output, Nat.le_trans h.size k.size, fun i hi hn => (k.block i (Nat.lt_of_lt_of_le hi h.size) (fun h' => (hs i h').elim hn (fun h'' => by omega))).trans (h.block i hi hn)⟩
theorem Fr.mono {S S' : Nat → Prop} {w w' : World} (h : Fr S w w') (hs : ∀ i, S i → S' i ∨ w.heap.size ≤ i) : Fr S' w w' :=
  ⟨h.os, h.tape, h.output, h.size, fun i hi hn => h.block i hi fun h' => (hs i h').elim hn (fun h'' => by omega)⟩
theorem Fr.of_below {S : Nat → Prop} {w w' : World} (h : Below w.heap.size w w') : Fr S w w' := ⟨h.os, h.tape, h.output, h.size, fun k hk _ => h.block k hk⟩
theorem Fr.below {w w' : World} (h : Fr (fun _ => False) w w') : Below w.heap.size w w' := ⟨h.os, h.tape, h.output, h.size, fun k hk => h.block k hk (fun h => h)⟩
theorem Fr.drew {S : Nat → Prop} {a w : World} (h : Fr S a w) : Fr S a w.drew := ⟨h.os, h.tape, h.output, h.size, h.block⟩
theorem Fr.alloc {S : Nat → Prop} {a w : World} (h : Fr S a w) (o : Obj) : Fr S a (w.alloc o) :=
  h.trans ⟨rfl, rfl, rfl, by simp, fun k hk _ => Below.heap_alloc _ _ _ hk⟩
theorem Fr.setCell {S : Nat → Prop} {a w : World} (h : Fr S a w) {p : Addr} (hp : S p.block ∨ a.heap.size ≤ p.block) (v : Value) : Fr S a (w.setCell p v) :=
  h.trans2 (S' := fun i => i = p.block) ⟨rfl, rfl, rfl, by simp, fun k _ hn => Below.heap_setCell _ _ _ _ hn⟩ (fun i e => by subst e; exact hp)
theorem Fr.grown {S : Nat → Prop} {a w w' : World} {row : Option Nat} (h : Fr S a w) (hg : w.grownBy w' row) (hr : ∀ k, row = some k → S k ∨ a.heap.size ≤ k) : Fr S a w' :=
  h.trans2 (S' := fun i => row = some i) ⟨hg.os, hg.tape, hg.output, hg.size, fun k hk hn => hg.block k hk (fun e => hn e.symm)⟩ hr

theorem Fr.setRow {S : Nat → Prop} {a w : World} (h : Fr S a w) {g : Nat} (hp : S g ∨ a.heap.size ≤ g) (cs : Array Value) : Fr S a (w.setRow g cs) :=
  h.trans2 (S' := fun i => i = g) ⟨rfl, rfl, rfl, by simp [World.setRow], fun k _ hn => setRow_other w g k cs hn⟩ (fun i e => by subst e; exact hp)
theorem below_setRow {B : Nat} {a w : World} (h : Below B a w) {g : Nat} (hp : B ≤ g) (cs : Array Value) : Below B a (w.setRow g cs) :=
  h.trans ⟨rfl, rfl, rfl, by simp [World.setRow], fun k hk => setRow_other w g k cs (by omega)⟩

theorem fr_setRow (w : World) (g : Nat) (cs : Array Value) : Fr (fun k => k = g) w (w.setRow g cs) := (Fr.refl (fun k => k = g) w).setRow (.inl rfl) cs
theorem fr_setCell (w : World) (a : Addr) (v : Value) : Fr (fun k => k = a.block) w (w.setCell a v) := (Fr.refl (fun k => k = a.block) w).setCell (.inl rfl) v

/-! ### Owned rows -/
theorem own_cell {w : World} {base e sz n : Nat} {A : Option Addr} {cap : Nat} {xs : List Value} (h : w.ownsRow base e sz (.slice A n cap) n xs) {g off : Nat} {sp : Option Nat} (hA : A = some ⟨g, off, sp⟩) :
    off = 0 ∧ sp = none ∧ base ≤ g ∧ g < w.heap.size ∧ ∀ j u, xs[j]? = some u → w.cell? ⟨g, j, none⟩ = some u := by
  rcases h.2 with ⟨h2, _⟩ | ⟨g', cap', cur, hv, hb, hg, _, _, _, ht⟩
  · rw [hA] at h2; cases h2
  · rw [hA] at hv
    cases hv
    refine ⟨rfl, rfl, hb, lt_blk hg, fun j u hu => ?_⟩
    simp only [World.cell?, hg]
    rw [← ht, List.getElem?_take] at hu
    split at hu
    · simpa using hu
    · cases hu
theorem own_nil {w : World} {base e sz n : Nat} {A : Option Addr} {cap : Nat} {xs : List Value} (h : w.ownsRow base e sz (.slice A n cap) n xs) (hA : A = none) : n = 0 ∧ cap = 0 := by
  rcases h.2 with ⟨h2, h3⟩ | ⟨g', cap', cur, hv, hb, hg, _, _, _, ht⟩
  · cases h2; exact ⟨rfl, rfl⟩
  · rw [hA] at hv; cases hv
theorem own_form {w : World} {base e sz n : Nat} {v : Value} {xs : List Value} (h : w.ownsRow base e sz v n xs) : ∃ A cap, v = .slice A n cap := by
  rcases h.2 with ⟨rfl, rfl⟩ | ⟨g', cap', cur, hv, _⟩
  · exact ⟨_, _, rfl⟩
  · exact ⟨_, _, hv⟩
theorem own_cap {w : World} {base e sz n : Nat} {A : Option Addr} {cap : Nat} {xs : List Value} (h : w.ownsRow base e sz (.slice A n cap) n xs) : n ≤ cap ∧ cap ≤ maxLen := by
  rcases h.2 with ⟨h2, h3⟩ | ⟨g', cap', cur, hv, hb, hg, h4, h5, _, ht⟩
  · cases h2; exact ⟨Nat.le_refl _, by simp [maxLen]⟩
  · cases hv; exact ⟨h4, h5⟩
theorem own_same {w w' : World} {base e sz n : Nat} {v : Value} {xs : List Value} (h : w.ownsRow base e sz v n xs) (hs : ∀ k, v.ownBlock = some k → w'.heap[k]? = w.heap[k]?) : w'.ownsRow base e sz v n xs := by
  refine ⟨h.1, ?_⟩
  rcases h.2 with h2 | ⟨g, cap, cur, hv, hb, hg, h4⟩
  · exact Or.inl h2
  · exact Or.inr ⟨g, cap, cur, hv, hb, by rw [hs g (by rw [hv]; rfl)]; exact hg, h4⟩
theorem own_mono {w : World} {base base' e sz n : Nat} {v : Value} {xs : List Value} (h : w.ownsRow base e sz v n xs) (hb : base' ≤ base) : w.ownsRow base' e sz v n xs := by
  refine ⟨h.1, ?_⟩
  rcases h.2 with h2 | ⟨g, cap, cur, hv, hg, h4⟩
  · exact Or.inl h2
  · exact Or.inr ⟨g, cap, cur, hv, Nat.le_trans hb hg, h4⟩
theorem own_lt {w : World} {base e sz n : Nat} {v : Value} {xs : List Value} (h : w.ownsRow base e sz v n xs) {k : Nat} (hk : v.ownBlock = some k) : base ≤ k ∧ k < w.heap.size := h.lt k hk
theorem own_below {w w' : World} {B base e sz n : Nat} {v : Value} {xs : List Value} (h : w.ownsRow base e sz v n xs) (hb : Below B w w') (hB : w.heap.size ≤ B) : w'.ownsRow base e sz v n xs :=
  own_same h fun k hk => hb.block k (Nat.lt_of_lt_of_le (own_lt h hk).2 hB)
theorem own_fr {S : Nat → Prop} {w w' : World} {base e sz n : Nat} {v : Value} {xs : List Value} (h : w.ownsRow base e sz v n xs) (hf : Fr S w w') (hS : ∀ k, v.ownBlock = some k → ¬ S k) : w'.ownsRow base e sz v n xs :=
  own_same h fun k hk => hf.block k (own_lt h hk).2 (hS k hk)

/-- Block g is a row of elements of type T. Blocks of two types are two blocks. -/
def Kind (w : World) (g : Nat) (T : TypeId) : Prop := ∃ cs fr, w.heap[g]? = some (.cells cs T fr)
theorem Kind.ne {w : World} {g g' : Nat} {T T' : TypeId} (h : Kind w g T) (h' : Kind w g' T') (hT : T ≠ T') : g ≠ g' := by
  rintro rfl
  obtain ⟨cs, fr, h⟩ := h
  obtain ⟨cs', fr', h'⟩ := h'
  rw [h] at h'
  cases h'
  exact hT rfl
theorem Kind.setCell {w : World} {g : Nat} {T : TypeId} (h : Kind w g T) (a : Addr) (v : Value) : Kind (w.setCell a v) g T := by
  obtain ⟨cs, fr, h⟩ := h
  by_cases e : a.block = g
  · exact ⟨if a.spot.isSome then cs else cs.setIfInBounds a.off v, fr, by simp [World.setCell, Array.getElem?_modify, e, h]⟩
  · exact ⟨cs, fr, by rw [other_blk (fun e' => e e'.symm)]; exact h⟩
theorem Kind.fr {S : Nat → Prop} {w w' : World} {g : Nat} {T : TypeId} (h : Kind w g T) (hf : Fr S w w') (hS : ¬ S g) : Kind w' g T := by
  obtain ⟨cs, fr, h⟩ := h
  exact ⟨cs, fr, by rw [hf.block g (lt_blk h) hS]; exact h⟩
theorem Kind.below {B : Nat} {w w' : World} {g : Nat} {T : TypeId} (h : Kind w g T) (hb : Below B w w') (hg : g < B) : Kind w' g T := by
  obtain ⟨cs, fr, h⟩ := h
  exact ⟨cs, fr, by rw [hb.block g hg]; exact h⟩
theorem own_kind {w : World} {base e sz n : Nat} {v : Value} {xs : List Value} (h : w.ownsRow base e sz v n xs) {k : Nat} (hk : v.ownBlock = some k) : Kind w k e := by
  rcases h.2 with ⟨rfl, _⟩ | ⟨g, cap, cur, rfl, _, hg, _⟩
  · cases hk
  · cases hk; exact ⟨_, _, hg⟩
theorem own_ne {w : World} {base e sz n base' e' sz' n' : Nat} {v v' : Value} {xs xs' : List Value} (h : w.ownsRow base e sz v n xs) (h' : w.ownsRow base' e' sz' v' n' xs') (he : e ≠ e') {k : Nat} (hk : v.ownBlock = some k) : v'.ownBlock ≠ some k :=
  fun hk' => (own_kind h hk).ne (own_kind h' hk') he rfl

/-- A slice that is read alone: n elements of sz cells each, the cells cs, from a block that `ok` lets. -/
def Sl (w : World) (ok : Nat → Prop) (sz : Nat) (v : Value) (n : Nat) (cs : List Value) : Prop :=
  cs.length = n * sz ∧ n ≤ 9223372036854775807 ∧ ∃ A cap, v = .slice A n cap ∧ n ≤ cap ∧ cap ≤ 9223372036854775807 ∧
    (n = 0 ∨ ∃ b off, A = some ⟨b, off, none⟩ ∧ ok b ∧ b < w.heap.size ∧ ∀ j u, cs[j]? = some u → w.cell? ⟨b, off + j, none⟩ = some u)
theorem Sl.of_own {w : World} {base e sz n : Nat} {v : Value} {xs : List Value} (h : w.ownsRow base e sz v n xs) : Sl w (base ≤ ·) sz v n xs := by
  obtain ⟨A, cap, rfl⟩ := own_form h
  have hc := own_cap h
  simp only [maxLen] at hc
  refine ⟨h.1, by omega, A, cap, rfl, hc.1, by omega, ?_⟩
  cases A with
  | none => exact Or.inl (own_nil h rfl).1
  | some ad =>
    obtain ⟨g, off, sp⟩ := ad
    obtain ⟨rfl, rfl, h1, h2, h3⟩ := own_cell h rfl
    exact Or.inr ⟨g, 0, rfl, h1, h2, fun j u hu => by rw [Nat.zero_add]; exact h3 j u hu⟩
theorem Sl.mono {w : World} {ok ok' : Nat → Prop} {sz : Nat} {v : Value} {n : Nat} {cs : List Value} (h : Sl w ok sz v n cs) (hk : ∀ b, b < w.heap.size → ok b → ok' b) : Sl w ok' sz v n cs := by
  obtain ⟨h1, h2, A, cap, h3, h4, h5, h6⟩ := h
  exact ⟨h1, h2, A, cap, h3, h4, h5, h6.imp id fun ⟨b, off, a1, a2, a3, a4⟩ => ⟨b, off, a1, hk b a3 a2, a3, a4⟩⟩
theorem Sl.fr {S : Nat → Prop} {w w' : World} {ok : Nat → Prop} {sz : Nat} {v : Value} {n : Nat} {cs : List Value} (h : Sl w ok sz v n cs) (hf : Fr S w w') (hS : ∀ b, ok b → ¬ S b) : Sl w' ok sz v n cs := by
  obtain ⟨h1, h2, A, cap, h3, h4, h5, h6⟩ := h
  refine ⟨h1, h2, A, cap, h3, h4, h5, h6.imp id fun ⟨b, off, a1, a2, a3, a4⟩ => ⟨b, off, a1, a2, Nat.lt_of_lt_of_le a3 hf.size, fun j u hu => ?_⟩⟩
  rw [World.cell?_of_block (w := w) (hf.block b a3 (hS b a2))]
  exact a4 j u hu
theorem Sl.below {B : Nat} {w w' : World} {ok : Nat → Prop} {sz : Nat} {v : Value} {n : Nat} {cs : List Value} (h : Sl w ok sz v n cs) (hb : Below B w w') (hB : w.heap.size ≤ B) : Sl w' ok sz v n cs :=
  h.fr (S := fun _ => False) ⟨hb.os, hb.tape, hb.output, hb.size, fun k hk _ => hb.block k (Nat.lt_of_lt_of_le hk hB)⟩ (fun _ _ h => h)

/-- The slice xs[lo:lo+n] of a slice; cap is what is left of the capacity. -/
def subv (A : Option Addr) (sz lo n cap : Nat) : Value := .slice (if cap = 0 then A else A.map (·.add (lo * sz))) n cap
theorem Sl.sub {w : World} {ok : Nat → Prop} {sz : Nat} {A : Option Addr} {cap n : Nat} {cs : List Value} (h : Sl w ok sz (.slice A n cap) n cs) (lo hi : Nat) (h1 : lo ≤ hi) (h2 : hi ≤ n) :
    Sl w ok sz (subv A sz lo (hi - lo) (cap - lo)) (hi - lo) ((cs.drop (lo * sz)).take ((hi - lo) * sz)) := by
  obtain ⟨a1, a2, A', cap', a3, a4, a5, a6⟩ := h
  cases a3
  have hm : lo * sz + (hi - lo) * sz = hi * sz := by rw [← Nat.add_mul]; congr 1; omega
  have hm2 : hi * sz ≤ n * sz := Nat.mul_le_mul_right _ h2
  refine ⟨by rw [List.length_take, List.length_drop, a1]; omega, by omega, _, _, rfl, by omega, by omega, ?_⟩
  by_cases hz : hi - lo = 0
  · exact Or.inl hz
  rcases a6 with a6 | ⟨b, off, rfl, b1, b2, b3⟩
  · omega
  · refine Or.inr ⟨b, off + lo * sz, ?_, b1, b2, fun j u hu => ?_⟩
    · rw [if_neg (by omega)]
      simp [Addr.add_lit]
    · rw [List.getElem?_take] at hu
      split at hu
      · rw [List.getElem?_drop] at hu
        rw [Nat.add_assoc]; exact b3 _ _ hu
      · cases hu

/-! ### The replica in memory -/
structure RepB (w : World) (b : Nat) (r : Rep) (A : Option Addr) (cap : Nat) : Prop where
  blk : w.heap[b]? = some (.cells (repCells r (.slice A r.log.length cap)).toArray 76)
  own : w.ownsRow 0 55 2 (.slice A r.log.length cap) r.log.length (recsCells r.log)
  ne : ∀ ad, A = some ad → ad.block ≠ b
  vN : r.votes.length = 3
  nN : r.next.length = 3
  mN : r.mtch.length = 3
structure RepOk (w : World) (b : Nat) (r : Rep) (A : Option Addr) (cap : Nat) : Prop extends RepB w b r A cap where
  wf : M.WF r
/-- The blocks that a replica may write. -/
def RepS (b : Nat) (A : Option Addr) (k : Nat) : Prop := k = b ∨ ∃ ad, A = some ad ∧ ad.block = k
section
variable {w : World} {b : Nat} {r : Rep} {A : Option Addr} {cap : Nat}
theorem RepB.lt (h : RepB w b r A cap) : b < w.heap.size := lt_blk h.blk
theorem RepB.cells (h : RepB w b r A cap) :
    w.cell? ⟨b, 0, none⟩ = some (.int .i64 r.id) ∧ w.cell? ⟨b, 1, none⟩ = some (.int .i64 r.hard.term) ∧ w.cell? ⟨b, 2, none⟩ = some (.int .i64 r.hard.vote) ∧
    w.cell? ⟨b, 3, none⟩ = some (.slice A r.log.length cap) ∧ w.cell? ⟨b, 4, none⟩ = some (.int .i64 r.role) ∧ w.cell? ⟨b, 5, none⟩ = some (.int .i64 r.commit) :=
  ⟨cell_blk h.blk 0, cell_blk h.blk 1, cell_blk h.blk 2, cell_blk h.blk 3, cell_blk h.blk 4, cell_blk h.blk 5⟩
theorem RepB.free (h : RepB w b r A cap) (i : Nat) : w.frozen? ⟨b, i, none⟩ = false := free_blk h.blk i
theorem RepB.fr {S : Nat → Prop} {w' : World} (h : RepB w b r A cap) (hf : Fr S w w') (hS : ∀ k, RepS b A k → ¬ S k) : RepB w' b r A cap :=
  ⟨by rw [hf.block b h.lt (hS b (.inl rfl))]; exact h.blk, own_fr h.own hf fun k hk => hS k (.inr (by cases A with
    | none => cases hk
    | some ad => exact ⟨ad, rfl, Option.some.inj hk⟩)), h.ne, h.vN, h.nN, h.mN⟩
theorem RepB.below {B : Nat} {w' : World} (h : RepB w b r A cap) (hb : Below B w w') (hB : w.heap.size ≤ B) : RepB w' b r A cap :=
  h.fr (S := fun _ => False) ⟨hb.os, hb.tape, hb.output, hb.size, fun k hk _ => hb.block k (Nat.lt_of_lt_of_le hk hB)⟩ (fun _ _ h => h)
theorem RepB.kind (h : RepB w b r A cap) : Kind w b 76 := ⟨_, _, h.blk⟩
theorem RepB.drew (h : RepB w b r A cap) : RepB w.drew b r A cap := ⟨h.blk, h.own, h.ne, h.vN, h.nN, h.mN⟩
theorem RepB.alloc (h : RepB w b r A cap) (o : Obj) : RepB (w.alloc o) b r A cap :=
  h.below ((Below.refl _ _).alloc (Nat.le_refl _) _) (Nat.le_refl _)
theorem RepB.far (h : RepB w b r A cap) {a : Addr} (hb : a.block ≠ b) (hA : ∀ ad, A = some ad → ad.block ≠ a.block) (v : Value) : RepB (w.setCell a v) b r A cap :=
  h.fr (S := fun k => k = a.block) ((Fr.refl (fun k => k = a.block) w).setCell (p := a) (.inl rfl) v) (fun k hk e => by
    rcases hk with rfl | ⟨ad, h1, h2⟩
    · exact hb e.symm
    · exact hA ad h1 (h2.trans e))
theorem RepB.rowLt (h : RepB w b r A cap) : ∀ ad, A = some ad → ad.block < w.heap.size := fun ad e => (own_lt h.own (by rw [e]; rfl)).2
/-- One cell is stored. -/
theorem RepB.put (h : RepB w b r A cap) (i : Nat) (v : Value) (r' : Rep) (hlog : r'.log = r.log) (hv : r'.votes.length = 3) (hn : r'.next.length = 3) (hm : r'.mtch.length = 3)
    (hc : (repCells r (.slice A r.log.length cap)).set i v = repCells r' (.slice A r.log.length cap)) : RepB (w.setCell ⟨b, i, none⟩ v) b r' A cap := by
  refine ⟨?_, ?_, h.ne, hv, hn, hm⟩
  · rw [hlog, ← hc]; exact set_blk h.blk i v
  · rw [hlog]
    refine own_same h.own fun k hk => other_blk ?_
    cases A with
    | none => cases hk
    | some ad => cases hk; exact h.ne ad rfl
theorem RepB.votes (h : RepB w b r A cap) (j : Nat) (hj : j < 3) : w.cell? ⟨b, 6 + j, none⟩ = some (.bool (r.votes.getD j false)) := by
  have h1 := h.vN
  rw [cell_blk h.blk]
  unfold repCells bools ints
  rw [List.getElem?_append_left (by simp [h1, h.nN]; omega), List.getElem?_append_left (by simp [h1]; omega), List.getElem?_append_right (by simp)]
  simp [h1, hj]
theorem RepB.next (h : RepB w b r A cap) (j : Nat) (hj : j < 3) : w.cell? ⟨b, 9 + j, none⟩ = some (.int .i64 (r.next.getD j 0)) := by
  have h1 := h.vN
  have h2 := h.nN
  rw [cell_blk h.blk]
  unfold repCells bools ints
  rw [List.getElem?_append_left (by simp [h1, h2]; omega), List.getElem?_append_right (by simp [h1])]
  simp [h1, h2, hj]
theorem RepB.mtch (h : RepB w b r A cap) (j : Nat) (hj : j < 3) : w.cell? ⟨b, 12 + j, none⟩ = some (.int .i64 (r.mtch.getD j 0)) := by
  have h1 := h.vN
  have h2 := h.nN
  have h3 := h.mN
  rw [cell_blk h.blk]
  unfold repCells bools ints
  rw [List.getElem?_append_right (by simp [h1, h2])]
  simp [h1, h2, h3, hj]
theorem RepB.putTerm (h : RepB w b r A cap) (t : Int) : RepB (w.setCell ⟨b, 1, none⟩ (.int .i64 t)) b { r with hard := ⟨t, r.hard.vote⟩ } A cap := h.put 1 _ _ rfl h.vN h.nN h.mN rfl
theorem RepB.putVote (h : RepB w b r A cap) (t : Int) : RepB (w.setCell ⟨b, 2, none⟩ (.int .i64 t)) b { r with hard := ⟨r.hard.term, t⟩ } A cap := h.put 2 _ _ rfl h.vN h.nN h.mN rfl
theorem RepB.putRole (h : RepB w b r A cap) (t : Int) : RepB (w.setCell ⟨b, 4, none⟩ (.int .i64 t)) b { r with role := t } A cap := h.put 4 _ _ rfl h.vN h.nN h.mN rfl
theorem RepB.putCommit (h : RepB w b r A cap) (t : Int) : RepB (w.setCell ⟨b, 5, none⟩ (.int .i64 t)) b { r with commit := t } A cap := h.put 5 _ _ rfl h.vN h.nN h.mN rfl
theorem RepB.putVotes (h : RepB w b r A cap) (j : Nat) (hj : j < 3) (t : Bool) : RepB (w.setCell ⟨b, 6 + j, none⟩ (.bool t)) b { r with votes := r.votes.set j t } A cap :=
  h.put (6 + j) _ _ rfl (by simp [h.vN]) h.nN h.mN (by
    have h1 := h.vN
    unfold repCells bools ints
    rw [List.set_append_left _ _ (by simp [h1, h.nN]; omega), List.set_append_left _ _ (by simp [h1]; omega), List.set_append_right _ _ (by simp)]
    simp [List.map_set])
theorem RepB.putNext (h : RepB w b r A cap) (j : Nat) (hj : j < 3) (t : Int) : RepB (w.setCell ⟨b, 9 + j, none⟩ (.int .i64 t)) b { r with next := r.next.set j t } A cap :=
  h.put (9 + j) _ _ rfl h.vN (by simp [h.nN]) h.mN (by
    have h1 := h.vN
    have h2 := h.nN
    unfold repCells bools ints
    rw [List.set_append_left _ _ (by simp [h1, h2]; omega), List.set_append_right _ _ (by simp [h1])]
    simp [List.map_set, h1])
theorem RepB.putMtch (h : RepB w b r A cap) (j : Nat) (_hj : j < 3) (t : Int) : RepB (w.setCell ⟨b, 12 + j, none⟩ (.int .i64 t)) b { r with mtch := r.mtch.set j t } A cap :=
  h.put (12 + j) _ _ rfl h.vN h.nN (by simp [h.mN]) (by
    have h1 := h.vN
    have h2 := h.nN
    unfold repCells bools ints
    rw [List.set_append_right _ _ (by simp [h1, h2])]
    simp [List.map_set, h1, h2])
/-- The log is laid anew. -/
theorem RepB.putLog (h : RepB w b r A cap) (l : List Rec) (A' : Option Addr) (cap' : Nat) (ho : w.ownsRow 0 55 2 (.slice A' l.length cap') l.length (recsCells l)) (hne : ∀ ad, A' = some ad → ad.block ≠ b) :
    RepB (w.setCell ⟨b, 3, none⟩ (.slice A' l.length cap')) b { r with log := l } A' cap' := by
  refine ⟨?_, ?_, hne, h.vN, h.nN, h.mN⟩
  · exact set_blk h.blk 3 _
  · refine own_same ho fun k hk => other_blk ?_
    cases A' with
    | none => cases hk
    | some ad => cases hk; exact hne ad rfl
theorem RepOk.fr {S : Nat → Prop} {w' : World} (h : RepOk w b r A cap) (hf : Fr S w w') (hS : ∀ k, RepS b A k → ¬ S k) : RepOk w' b r A cap := ⟨h.toRepB.fr hf hS, h.wf⟩
theorem RepOk.below {B : Nat} {w' : World} (h : RepOk w b r A cap) (hb : Below B w w') (hB : w.heap.size ≤ B) : RepOk w' b r A cap := ⟨h.toRepB.below hb hB, h.wf⟩
theorem RepOk.drew (h : RepOk w b r A cap) : RepOk w.drew b r A cap := ⟨h.toRepB.drew, h.wf⟩
theorem RepOk.alloc (h : RepOk w b r A cap) (o : Obj) : RepOk (w.alloc o) b r A cap := ⟨h.toRepB.alloc o, h.wf⟩
theorem RepOk.far (h : RepOk w b r A cap) {a : Addr} (hb : a.block ≠ b) (hA : ∀ ad, A = some ad → ad.block ≠ a.block) (v : Value) : RepOk (w.setCell a v) b r A cap := ⟨h.toRepB.far hb hA v, h.wf⟩
end

/-- Messages in memory: the cells' list, and each message's entries. -/
def MsgsOk (w : World) (base : Nat) (v : Value) (ms : List Msg) : Prop :=
  ∃ ps : List (Msg × Value), ms = ps.map Prod.fst ∧ w.ownsRow base 37 9 v ps.length (msgsCells ps) ∧ ∀ p ∈ ps, w.ownsRow base 55 2 p.2 p.1.recs.length (recsCells p.1.recs)
theorem MsgsOk.nil (w : World) (base : Nat) : MsgsOk w base (.slice none 0 0) [] := ⟨[], rfl, World.ownsRow_nil _ _ _ _, fun p hp => by cases hp⟩
theorem MsgsOk.mono {w : World} {base base' : Nat} {v : Value} {ms : List Msg} (h : MsgsOk w base v ms) (hb : base' ≤ base) : MsgsOk w base' v ms := by
  obtain ⟨ps, h1, h2, h3⟩ := h
  exact ⟨ps, h1, own_mono h2 hb, fun p hp => own_mono (h3 p hp) hb⟩
theorem MsgsOk.fr {S : Nat → Prop} {w w' : World} {base : Nat} {v : Value} {ms : List Msg} (h : MsgsOk w base v ms) (hf : Fr S w w') (hS : ∀ k, base ≤ k → Kind w k 37 ∨ Kind w k 55 → ¬ S k) : MsgsOk w' base v ms := by
  obtain ⟨ps, h1, h2, h3⟩ := h
  exact ⟨ps, h1, own_fr h2 hf (fun k hk => hS k (own_lt h2 hk).1 (.inl (own_kind h2 hk))), fun p hp => own_fr (h3 p hp) hf (fun k hk => hS k (own_lt (h3 p hp) hk).1 (.inr (own_kind (h3 p hp) hk)))⟩
/-- What a call hands back, in memory from block `base` on. -/
structure OutOk (w : World) (base : Nat) (o : Out) (rv sv : Value) : Prop where
  recs : w.ownsRow base 55 2 rv o.recs.length (recsCells o.recs)
  send : MsgsOk w base sv o.send
theorem OutOk.nil (w : World) (base : Nat) : OutOk w base M.noOut (.slice none 0 0) (.slice none 0 0) := ⟨World.ownsRow_nil _ _ _ _, MsgsOk.nil _ _⟩

end Go.Proofs.Ytodmihpmbecncaa
