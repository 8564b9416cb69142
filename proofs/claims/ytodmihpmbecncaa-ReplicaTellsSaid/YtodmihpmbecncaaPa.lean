/-
  Plain laws of the replica's model: what each call keeps of a sound replica. No condition; no program in it.
-/
import Derived.Test.YtodmihpmbecncaaModel
namespace Go.Proofs.Ytodmihpmbecncaa
namespace M

/-- The term of the last entry; `a` where there is none. -/
def lastT (a : Int) (l : List Rec) : Int := ((l.getLast?).map (·.term)).getD a
theorem lastT_nil (a : Int) : lastT a [] = a := rfl
theorem lastT_cons (a : Int) (x : Rec) (l : List Rec) : lastT a (x :: l) = lastT x.term l := by
  unfold lastT
  cases l with
  | nil => rfl
  | cons y l => simp [List.getLast?_cons_cons]; cases h : (y :: l).getLast? with
    | none => simp at h
    | some z => simp
theorem sound_append : ∀ (l1 l2 : List Rec) (a T : Int), sound (l1 ++ l2) a T = (sound l1 a T && sound l2 (lastT a l1) T)
  | [], l2, a, T => by simp [sound, lastT_nil]
  | x :: l1, l2, a, T => by
    rw [List.cons_append, sound, sound, lastT_cons, sound_append l1 l2]
    split <;> simp
theorem sound_least : ∀ (l : List Rec) (a a' T : Int), a' ≤ a → sound l a T = true → sound l a' T = true
  | [], _, _, _, _, _ => rfl
  | x :: l, a, a', T, h, hs => by
    unfold sound at hs ⊢
    by_cases hc : x.term < a ∨ T < x.term ∨ 2000 < x.data.size
    · rw [if_pos hc] at hs; cases hs
    · rw [if_neg hc] at hs
      rw [if_neg (by omega)]
      exact hs
theorem lastT_take : ∀ (l : List Rec) (a T : Int) (p : Nat), p ≤ l.length → sound l a T = true → lastT a (l.take p) = if p = 0 then a else tm l p
  | l, a, T, 0, _, _ => by simp [lastT_nil]
  | [], a, T, p + 1, h, _ => by simp at h
  | x :: l, a, T, p + 1, h, hs => by
    rw [List.length_cons] at h
    rw [List.take_succ_cons, lastT_cons]
    unfold sound at hs
    by_cases hc : x.term < a ∨ T < x.term ∨ 2000 < x.data.size
    · rw [if_pos hc] at hs; cases hs
    rw [if_neg hc] at hs
    have e : tm (x :: l) ((p + 1 : Nat) : Int) = ((x :: l).getD p zRec).term := by
      unfold tm
      rw [if_neg (by omega)]
      congr 2
      omega
    rw [lastT_take l x.term T p (by omega) hs, e, if_neg (Nat.succ_ne_zero p)]
    by_cases hp : p = 0
    · subst hp; simp
    · rw [if_neg hp]
      unfold tm
      rw [if_neg (by omega)]
      obtain ⟨q, rfl⟩ : ∃ q, p = q + 1 := ⟨p - 1, by omega⟩
      rw [List.getD_cons_succ]
      congr 2
      omega
theorem sound_term : ∀ (l : List Rec) (a T : Int) (p : Nat), 0 < p → p ≤ l.length → sound l a T = true → a ≤ tm l p ∧ tm l p ≤ T
  | [], a, T, p, h0, h, _ => by simp at h; omega
  | x :: l, a, T, p, h0, h, hs => by
    rw [List.length_cons] at h
    unfold sound at hs
    by_cases hc : x.term < a ∨ T < x.term ∨ 2000 < x.data.size
    · rw [if_pos hc] at hs; cases hs
    rw [if_neg hc] at hs
    obtain ⟨q, rfl⟩ : ∃ q, p = q + 1 := ⟨p - 1, by omega⟩
    have e : tm (x :: l) ((q + 1 : Nat) : Int) = ((x :: l).getD q zRec).term := by
      unfold tm
      rw [if_neg (by omega)]
      congr 2
      omega
    rw [e]
    cases q with
    | zero => simp; omega
    | succ q =>
      have := sound_term l x.term T (q + 1) (by omega) (by omega) hs
      have e2 : tm l ((q + 1 : Nat) : Int) = ((x :: l).getD (q + 1) zRec).term := by
        unfold tm
        rw [if_neg (by omega), List.getD_cons_succ]
        congr 2
        omega
      rw [← e2]
      omega

theorem agree_cons (l : List Rec) (i : Int) (x : Rec) (xs : List Rec) : agree l i (x :: xs) = if i + 1 ≤ l.length ∧ tm l (i + 1) = x.term then agree l (i + 1) xs + 1 else 0 := rfl
theorem agree_le (l : List Rec) : ∀ (i : Int) (xs : List Rec), agree l i xs ≤ xs.length
  | _, [] => Nat.le_refl _
  | i, x :: xs => by
    unfold agree
    split
    · have := agree_le l (i + 1) xs; simp; omega
    · simp
/-- The entries that agree stand in the log. -/
theorem agree_in (l : List Rec) : ∀ (i : Int) (xs : List Rec), 0 ≤ i → i ≤ l.length → i + agree l i xs ≤ l.length
  | i, [], _, h => by unfold agree; omega
  | i, x :: xs, h0, h => by
    unfold agree
    split
    · rename_i hc
      have := agree_in l (i + 1) xs (by omega) hc.1
      omega
    · omega
theorem agree_sound (l : List Rec) : ∀ (i : Int) (xs : List Rec) (a T : Int), sound xs a T = true → sound (xs.drop (agree l i xs)) (if agree l i xs = 0 then a else tm l (i + agree l i xs)) T = true
  | _, [], _, _, _ => by simp [agree, sound]
  | i, x :: xs, a, T, hs => by
    unfold agree
    split
    · rename_i hc
      have hs0 := hs
      unfold sound at hs
      by_cases hc2 : x.term < a ∨ T < x.term ∨ 2000 < x.data.size
      · rw [if_pos hc2] at hs; cases hs
      rw [if_neg hc2] at hs
      have := agree_sound l (i + 1) xs x.term T hs
      rw [List.drop_succ_cons, if_neg (by omega)]
      by_cases h0 : agree l (i + 1) xs = 0
      · rw [if_pos h0] at this
        rw [h0] at this ⊢
        rw [show (i + ((0 + 1 : Nat) : Int)) = i + 1 from by omega, hc.2]
        exact this
      · rw [if_neg h0] at this
        rw [show i + ((agree l (i + 1) xs + 1 : Nat) : Int) = i + 1 + (agree l (i + 1) xs : Nat) from by omega]
        exact this
    · simpa using hs

/-- What append writes is sound. -/
theorem append_sound {l recs : List Rec} {T index prev : Int} (hl : sound l 1 T = true) (hr : sound recs (max 1 prev) T = true) (h0 : 0 ≤ index) (h1 : index ≤ l.length) (hp : tm l index = prev) :
    sound (l.take (index + agree l index recs).toNat ++ recs.drop (agree l index recs)) 1 T = true := by
  have ha := agree_in l index recs h0 h1
  have hs := agree_sound l index recs _ T hr
  generalize agree l index recs = k at *
  obtain ⟨n, rfl⟩ := Int.eq_ofNat_of_zero_le h0
  have hn : ((n : Int) + (k : Int)).toNat = n + k := by omega
  rw [hn, sound_append, Bool.and_eq_true]
  constructor
  · have := sound_append (l.take (n + k)) (l.drop (n + k)) 1 T
    rw [List.take_append_drop, hl] at this
    simp at this
    exact this.1
  · rw [lastT_take l 1 T (n + k) (by omega) hl]
    have hle : (if n + k = 0 then (1 : Int) else tm l ((n + k : Nat) : Int)) ≤ (if k = 0 then max 1 prev else tm l ((n : Int) + (k : Int))) := by
      by_cases hk : k = 0
      · subst hk
        rw [if_pos rfl]
        by_cases hn0 : n = 0
        · rw [if_pos (by omega)]; omega
        · rw [if_neg (by omega)]
          have : ((n + 0 : Nat) : Int) = (n : Int) := by omega
          rw [this, hp]; omega
      · rw [if_neg (by omega), if_neg hk]
        have : ((n + k : Nat) : Int) = (n : Int) + (k : Int) := by omega
        rw [this]; omega
    exact sound_least _ _ _ _ hle hs

theorem agree_at (l : List Rec) : ∀ (xs : List Rec) (i : Int) (k : Nat), k ≤ agree l i xs → agree l i xs = k + agree l (i + k) (xs.drop k)
  | xs, i, 0, _ => by simp
  | [], i, k + 1, h => by simp [agree] at h
  | x :: xs, i, k + 1, h => by
    rw [agree_cons] at h ⊢
    split
    · rename_i hc
      rw [if_pos hc] at h
      have := agree_at l xs (i + 1) k (by omega)
      rw [List.drop_succ_cons, this, show i + ((k + 1 : Nat) : Int) = i + 1 + (k : Int) from by omega]
      omega
    · rename_i hc
      rw [if_neg hc] at h
      omega
end M
end Go.Proofs.Ytodmihpmbecncaa
