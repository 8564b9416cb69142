/-
  How the cluster of law 08 lies in memory. No condition.
-/
import Derived.Test.YtodmihpmbecncaaClA
import Derived.Test.YtodmihpmbecncaaPk
import Derived.Laws.OwnMore
namespace Go.Proofs.Ytodmihpmbecncaa
open Go.RowKit

/-- Where a cluster lies. -/
structure Lay where
  bs : Nat → Nat
  As : Nat → Option Addr
  caps : Nat → Nat
  lv : Nat → Value
  rA : Nat
  rc : Nat
  sA : Nat
  sc : Nat
  mA : Option Addr
  mc : Nat

def ptrV (b : Nat) : Value := .pointer (some ⟨b, 0, none⟩)
def ptrs (L : Lay) : List Value := [ptrV (L.bs 0), ptrV (L.bs 1), ptrV (L.bs 2)]
def stC (s : M.St) (v : Value) : List Value := [.int .i64 s.hard.term, .int .i64 s.hard.vote, v, .int .i64 s.stop]
def stsC (s : List M.St) (lv : Nat → Value) : List Value := stC (s.getD 0 M.zSt) (lv 0) ++ (stC (s.getD 1 M.zSt) (lv 1) ++ stC (s.getD 2 M.zSt) (lv 2))

/-- The rows of the replicas' logs. -/
def rowsX (L : Lay) (k : Nat) : Prop := ∃ i, i < 3 ∧ ∃ ad, L.As i = some ad ∧ ad.block = k

/-- Messages in memory, whose entries lie outside of X. -/
def MsgsX (w : World) (X : Nat → Prop) (v : Value) (ms : List Msg) : Prop :=
  ∃ ps : List (Msg × Value), ms = ps.map Prod.fst ∧ w.ownsRow 0 37 9 v ps.length (msgsCells ps) ∧ ∀ p ∈ ps, w.ownsRow 0 55 2 p.2 p.1.recs.length (recsCells p.1.recs) ∧ ∀ k, p.2.ownBlock = some k → ¬ X k
theorem MsgsX.fr {S X X' : Nat → Prop} {w w' : World} {v : Value} {ms : List Msg} (h : MsgsX w X v ms) (hf : Fr S w w') (hv : ∀ k, v.ownBlock = some k → ¬ S k) (hS : ∀ k, Kind w k 55 → k < w.heap.size → ¬ X k → ¬ S k) (hX : ∀ k, k < w.heap.size → X' k → X k) : MsgsX w' X' v ms := by
  obtain ⟨ps, h1, h2, h3⟩ := h
  exact ⟨ps, h1, own_fr h2 hf hv, fun p hp => ⟨own_fr (h3 p hp).1 hf (fun k hk => hS k (own_kind (h3 p hp).1 hk) (own_lt (h3 p hp).1 hk).2 ((h3 p hp).2 k hk)), fun k hk hx => (h3 p hp).2 k hk (hX k (own_lt (h3 p hp).1 hk).2 hx)⟩⟩
theorem MsgsX.of {w : World} {base : Nat} {X : Nat → Prop} {v : Value} {ms : List Msg} (h : MsgsOk w base v ms) (hX : ∀ k, base ≤ k → ¬ X k) : MsgsX w X v ms := by
  obtain ⟨ps, h1, h2, h3⟩ := h
  exact ⟨ps, h1, own_mono h2 (Nat.zero_le _), fun p hp => ⟨own_mono (h3 p hp) (Nat.zero_le _), fun k hk => hX k (own_lt (h3 p hp) hk).1⟩⟩

structure ClOk (w : World) (cb : Nat) (x : M.Cl) (L : Lay) : Prop where
  blk : w.heap[cb]? = some (.cells [.slice (some ⟨L.rA, 0, none⟩) 3 L.rc, .slice (some ⟨L.sA, 0, none⟩) 3 L.sc, .slice L.mA x.sent.length L.mc].toArray 34)
  rN : x.r.length = 3
  sN : x.s.length = 3
  mN : x.sent.length ≤ 300
  rrow : w.ownsRow 0 46 1 (.slice (some ⟨L.rA, 0, none⟩) 3 L.rc) 3 (ptrs L)
  srow : w.ownsRow 0 42 4 (.slice (some ⟨L.sA, 0, none⟩) 3 L.sc) 3 (stsC x.s L.lv)
  rep : ∀ i, i < 3 → RepOk w (L.bs i) (x.r.getD i M.zRep) (L.As i) (L.caps i)
  slog : ∀ i, i < 3 → w.ownsRow 0 55 2 (L.lv i) (x.s.getD i M.zSt).log.length (recsCells (x.s.getD i M.zSt).log) ∧ ∀ k, (L.lv i).ownBlock = some k → ¬ rowsX L k
  sent : MsgsX w (rowsX L) (.slice L.mA x.sent.length L.mc) x.sent
  sepB : ∀ i j, i < 3 → j < 3 → i ≠ j → L.bs i ≠ L.bs j
  sepA : ∀ i j, i < 3 → j < 3 → i ≠ j → ∀ a b, L.As i = some a → L.As j = some b → a.block ≠ b.block

/-- The blocks that an operation on the cluster may write. -/
def ClS (cb : Nat) (L : Lay) (k : Nat) : Prop := k = cb ∨ k = L.rA ∨ k = L.sA ∨ (∃ ad, L.mA = some ad ∧ ad.block = k) ∨ ∃ i, i < 3 ∧ RepS (L.bs i) (L.As i) k
/-- What a method of the cluster leaves. -/
def ClPost (w : World) (cb : Nat) (L : Lay) (x' : M.Cl) (e : Ending) (w' : World) : Prop :=
  ∃ L', e = .returned (.bool true) ∧ ClOk w' cb x' L' ∧ (∀ k, k < w.heap.size → ClS cb L' k → ClS cb L k) ∧ Fr (ClS cb L) w w'

section
variable {w w' : World} {cb : Nat} {x : M.Cl} {L : Lay}
theorem ClOk.kind (h : ClOk w cb x L) : Kind w cb 34 := ⟨_, _, h.blk⟩
theorem ClOk.rkind (h : ClOk w cb x L) : Kind w L.rA 46 := own_kind h.rrow rfl
theorem ClOk.skind (h : ClOk w cb x L) : Kind w L.sA 42 := own_kind h.srow rfl
theorem ClOk.bkind (h : ClOk w cb x L) {i : Nat} (hi : i < 3) : Kind w (L.bs i) 76 := (h.rep i hi).kind
theorem ClOk.akind (h : ClOk w cb x L) {i : Nat} (hi : i < 3) {ad : Addr} (e : L.As i = some ad) : Kind w ad.block 55 := own_kind (h.rep i hi).own (k := ad.block) (by rw [e]; rfl)
theorem ClOk.mkind (h : ClOk w cb x L) {ad : Addr} (e : L.mA = some ad) : Kind w ad.block 37 := by
  obtain ⟨ps, _, h2, _⟩ := h.sent
  exact own_kind h2 (k := ad.block) (by rw [e]; rfl)
theorem Kind.lt {g : Nat} {T : TypeId} (h : Kind w g T) : g < w.heap.size := by
  obtain ⟨_, _, h⟩ := h
  exact lt_blk h
theorem ClOk.lt (h : ClOk w cb x L) {k : Nat} (hk : ClS cb L k) : k < w.heap.size := by
  rcases hk with rfl | rfl | rfl | ⟨ad, e, rfl⟩ | ⟨i, hi, rfl | ⟨ad, e, rfl⟩⟩
  · exact h.kind.lt
  · exact h.rkind.lt
  · exact h.skind.lt
  · exact (h.mkind e).lt
  · exact (h.bkind hi).lt
  · exact (h.akind hi e).lt

/-- A step that writes none of the cluster's blocks. -/
theorem ClOk.keep {S : Nat → Prop} (h : ClOk w cb x L) (hf : Fr S w w')
    (hS : ∀ k, S k → ¬ Kind w k 34 ∧ ¬ Kind w k 46 ∧ ¬ Kind w k 42 ∧ ¬ Kind w k 76 ∧ ¬ Kind w k 55 ∧ ∀ ad, L.mA = some ad → ad.block ≠ k) : ClOk w' cb x L where
  blk := by rw [hf.block cb h.kind.lt (fun e => (hS _ e).1 h.kind)]; exact h.blk
  rN := h.rN
  sN := h.sN
  mN := h.mN
  rrow := own_fr h.rrow hf (fun k hk e => (hS _ e).2.1 (own_kind h.rrow hk))
  srow := own_fr h.srow hf (fun k hk e => (hS _ e).2.2.1 (own_kind h.srow hk))
  rep i hi := (h.rep i hi).fr hf (fun k hk e => by
    rcases hk with rfl | ⟨ad, e1, rfl⟩
    · exact (hS _ e).2.2.2.1 (h.bkind hi)
    · exact (hS _ e).2.2.2.2.1 (h.akind hi e1))
  slog i hi := ⟨own_fr (h.slog i hi).1 hf (fun k hk e => (hS _ e).2.2.2.2.1 (own_kind (h.slog i hi).1 hk)), (h.slog i hi).2⟩
  sent := h.sent.fr hf (fun k hk e => by
    obtain ⟨ad, e1, rfl⟩ : ∃ ad, L.mA = some ad ∧ ad.block = k := by
      cases hm : L.mA with
      | none => rw [hm] at hk; cases hk
      | some ad => rw [hm] at hk; exact ⟨ad, rfl, Option.some.inj hk⟩
    exact (hS _ e).2.2.2.2.2 ad e1 rfl) (fun k hk _ _ e => (hS _ e).2.2.2.2.1 hk) (fun _ _ h => h)
  sepB := h.sepB
  sepA := h.sepA
theorem ClOk.below (h : ClOk w cb x L) (hb : Below w.heap.size w w') : ClOk w' cb x L := h.keep (S := fun _ => False) (Fr.of_below hb) (fun _ h => h.elim)
theorem ClOk.drew (h : ClOk w cb x L) : ClOk w.drew cb x L := h.below (Below.refl _ _).drew
theorem ClOk.alloc (h : ClOk w cb x L) (o : Obj) : ClOk (w.alloc o) cb x L := h.below ((Below.refl _ _).alloc (Nat.le_refl _) _)

theorem up3 {α : Type} (f : Nat → α) (i : Nat) (a : α) {P : Nat → α → Prop} (h1 : P i a) (h2 : ∀ j, j < 3 → j ≠ i → P j (f j)) : ∀ j, j < 3 → P j (M.up f i a j) := fun j hj => by
  by_cases e : j = i
  · subst e; rw [M.up_at]; exact h1
  · rw [M.up_ne _ _ e]; exact h2 j hj e

/-- A replica was called. -/
theorem ClOk.call (h : ClOk w cb x L) {i : Nat} (hi : i < 3) {r' : Rep} {A' : Option Addr} {cap' : Nat} (hR : RepOk w' (L.bs i) r' A' cap') (hA : A' = L.As i ∨ ∀ ad, A' = some ad → w.heap.size ≤ ad.block)
    (hf : Fr (RepS (L.bs i) (L.As i)) w w') : ClOk w' cb { x with r := x.r.set i r' } { L with As := M.up L.As i A', caps := M.up L.caps i cap' } := by
  have hB : ∀ {k T}, Kind w k T → T ≠ 76 → T ≠ 55 → ¬ RepS (L.bs i) (L.As i) k := fun hk h1 h2 e => by
    rcases e with rfl | ⟨ad, e1, rfl⟩
    · exact hk.ne (h.bkind hi) h1 rfl
    · exact hk.ne (h.akind hi e1) h2 rfl
  have hX : ∀ k, k < w.heap.size → rowsX { L with As := M.up L.As i A', caps := M.up L.caps i cap' } k → rowsX L k := fun k hk ⟨j, hj, ad, e, e2⟩ => by
    by_cases hji : j = i
    · subst hji
      change M.up L.As j A' j = some ad at e
      rw [M.up_at] at e
      rcases hA with hA | hA
      · exact ⟨j, hj, ad, by rw [← hA]; exact e, e2⟩
      · have := hA ad e; omega
    · change M.up L.As i A' j = some ad at e
      rw [M.up_ne _ _ hji] at e
      exact ⟨j, hj, ad, e, e2⟩
  have hrow : ∀ k, Kind w k 55 → ¬ rowsX L k → ¬ RepS (L.bs i) (L.As i) k := fun k hk hn e => by
    rcases e with rfl | ⟨ad, e1, e2⟩
    · exact hk.ne (h.bkind hi) (by decide) rfl
    · exact hn ⟨i, hi, ad, e1, e2⟩
  refine ⟨?_, by simpa using h.rN, h.sN, h.mN, own_fr h.rrow hf (fun k hk => hB (own_kind h.rrow hk) (by decide) (by decide)), own_fr h.srow hf (fun k hk => hB (own_kind h.srow hk) (by decide) (by decide)), ?_, ?_, ?_, h.sepB, ?_⟩
  · show w'.heap[cb]? = _
    rw [hf.block cb h.kind.lt (hB h.kind (by decide) (by decide))]; exact h.blk
  · intro j hj
    show RepOk w' (L.bs j) ((x.r.set i r').getD j M.zRep) (M.up L.As i A' j) (M.up L.caps i cap' j)
    by_cases e : j = i
    · subst e
      rw [M.getD_set_eq _ _ _ _ (by rw [h.rN]; exact hj), M.up_at, M.up_at]; exact hR
    · rw [M.getD_set_ne _ _ _ (fun h => e h.symm), M.up_ne _ _ e, M.up_ne _ _ e]
      refine (h.rep j hj).fr hf fun k hk hk' => ?_
      rcases hk with rfl | ⟨ad, e1, rfl⟩
      · rcases hk' with hk' | ⟨ad, e1, e2⟩
        · exact h.sepB j i hj hi e hk'
        · exact (h.akind hi e1).ne (h.bkind hj) (by decide) e2
      · rcases hk' with hk' | ⟨ad', e1', e2⟩
        · exact (h.akind hj e1).ne (h.bkind hi) (by decide) hk'
        · exact h.sepA j i hj hi e _ _ e1 e1' e2.symm
  · intro j hj
    refine ⟨own_fr (h.slog j hj).1 hf (fun k hk => hrow k (own_kind (h.slog j hj).1 hk) ((h.slog j hj).2 k hk)), fun k hk hx => (h.slog j hj).2 k hk (hX k (own_lt (h.slog j hj).1 hk).2 hx)⟩
  · refine h.sent.fr hf (fun k hk => ?_) (fun k hk _ hn => hrow k hk hn) hX
    obtain ⟨ps, _, h2, _⟩ := h.sent
    exact hB (own_kind h2 hk) (by decide) (by decide)
  · have hlt : ∀ j, j < 3 → ∀ b, L.As j = some b → b.block < w.heap.size := fun j hj b e => (h.akind hj e).lt
    intro j k hj hk hjk a b ea eb
    change M.up L.As i A' j = some a at ea
    change M.up L.As i A' k = some b at eb
    by_cases hji : j = i
    · subst hji
      rw [M.up_at] at ea
      rw [M.up_ne _ _ (fun e => hjk e.symm)] at eb
      rcases hA with hA | hA
      · exact h.sepA j k hj hk hjk a b (by rw [← hA]; exact ea) eb
      · have := hA a ea; have := hlt k hk b eb; omega
    · rw [M.up_ne _ _ hji] at ea
      by_cases hki : k = i
      · subst hki
        rw [M.up_at] at eb
        rcases hA with hA | hA
        · exact h.sepA j k hj hk hjk a b ea (by rw [← hA]; exact eb)
        · have := hA b eb; have := hlt j hj a ea; omega
      · rw [M.up_ne _ _ hki] at eb
        exact h.sepA j k hj hk hjk a b ea eb
end
end Go.Proofs.Ytodmihpmbecncaa
