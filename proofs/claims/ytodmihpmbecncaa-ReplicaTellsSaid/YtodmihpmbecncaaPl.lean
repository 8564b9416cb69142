/-
  Safety of the replicas' protocol, part 1: logs that agree up to a number, the ghost state (votes, logs of leaders, acknowledgements) and its invariant. No condition; no program in it.
-/
import Derived.Test.YtodmihpmbecncaaCm
namespace Go.Proofs.Ytodmihpmbecncaa
namespace M

/-! ### Logs that agree -/
def tn (l : List Rec) (p : Nat) : Int := tm l p
theorem tn_zero (l : List Rec) : tn l 0 = 0 := by simp [tn, tm]
theorem tn_succ (l : List Rec) (p : Nat) : tn l (p + 1) = (l.getD p zRec).term := by
  unfold tn tm
  rw [if_neg (by omega)]
  congr 2
  omega
theorem tn_append (l l' : List Rec) (p : Nat) (h : p ≤ l.length) : tn (l ++ l') p = tn l p := by
  cases p with
  | zero => rw [tn_zero, tn_zero]
  | succ p => rw [tn_succ, tn_succ, List.getD_eq_getElem?_getD, List.getD_eq_getElem?_getD, List.getElem?_append_left (by omega)]
theorem tn_snoc (l : List Rec) (x : Rec) : tn (l ++ [x]) (l.length + 1) = x.term := by
  rw [tn_succ, List.getD_eq_getElem?_getD]; simp

/-- Two lists agree up to n. -/
def Ag (a b : List Rec) (n : Nat) : Prop := n ≤ a.length ∧ n ≤ b.length ∧ a.take n = b.take n
theorem Ag.refl {l : List Rec} {n : Nat} (h : n ≤ l.length) : Ag l l n := ⟨h, h, rfl⟩
theorem Ag.symm {a b : List Rec} {n : Nat} (h : Ag a b n) : Ag b a n := ⟨h.2.1, h.1, h.2.2.symm⟩
theorem Ag.trans {a b c : List Rec} {n : Nat} (h : Ag a b n) (k : Ag b c n) : Ag a c n := ⟨h.1, k.2.1, h.2.2.trans k.2.2⟩
theorem Ag.mono {a b : List Rec} {n m : Nat} (h : Ag a b n) (hm : m ≤ n) : Ag a b m := by
  refine ⟨Nat.le_trans hm h.1, Nat.le_trans hm h.2.1, ?_⟩
  have := congrArg (List.take m) h.2.2
  simpa [List.take_take, Nat.min_eq_left hm] using this
theorem Ag.app {a b : List Rec} {n : Nat} (h : Ag a b n) (c : List Rec) : Ag a (b ++ c) n :=
  ⟨h.1, by have := h.2.1; simp; omega, by rw [List.take_append_of_le_length h.2.1]; exact h.2.2⟩
theorem Ag.appL {a b : List Rec} {n : Nat} (h : Ag a b n) (c : List Rec) : Ag (a ++ c) b n := (h.symm.app c).symm
theorem Ag.take {a b : List Rec} {n N : Nat} (h : Ag a b n) (hN : n ≤ N) : Ag a (b.take N) n :=
  ⟨h.1, by have := h.2.1; rw [List.length_take]; omega, by rw [List.take_take, Nat.min_eq_left hN]; exact h.2.2⟩
theorem Ag.zero (a b : List Rec) : Ag a b 0 := ⟨Nat.zero_le _, Nat.zero_le _, rfl⟩
theorem Ag.getD {a b : List Rec} {n : Nat} (h : Ag a b n) {q : Nat} (hq : q < n) (z : Rec) : a.getD q z = b.getD q z := by
  have := congrArg (fun l => l[q]?) h.2.2
  simp only [List.getElem?_take, if_pos hq] at this
  rw [List.getD_eq_getElem?_getD, List.getD_eq_getElem?_getD, this]
theorem Ag.tn {a b : List Rec} {n : Nat} (h : Ag a b n) {p : Nat} (hp : p ≤ n) : tn a p = tn b p := by
  cases p with
  | zero => rw [tn_zero, tn_zero]
  | succ p => rw [tn_succ, tn_succ, h.getD (by omega)]
theorem Ag.succ {a b : List Rec} {n : Nat} (h : Ag a b n) (ha : n < a.length) (hb : n < b.length) (he : a.getD n zRec = b.getD n zRec) : Ag a b (n + 1) := by
  refine ⟨ha, hb, ?_⟩
  rw [List.take_succ_eq_append_getElem ha, List.take_succ_eq_append_getElem hb, h.2.2]
  rw [List.getD_eq_getElem?_getD, List.getD_eq_getElem?_getD, List.getElem?_eq_getElem ha, List.getElem?_eq_getElem hb] at he
  simp only [Option.getD_some] at he
  rw [he]

/-- Terms from a to b that never decrease. -/
def Srt (a b : Int) (l : List Rec) : Prop := ∀ p q, 1 ≤ p → p ≤ q → q ≤ l.length → a ≤ tn l p ∧ tn l p ≤ tn l q ∧ tn l q ≤ b
theorem Srt.mono {a b b' : Int} {l : List Rec} (h : Srt a b l) (hb : b ≤ b') : Srt a b' l := fun p q h1 h2 h3 => by
  have := h p q h1 h2 h3; omega
theorem Srt.nil (a b : Int) : Srt a b [] := fun p q h1 h2 h3 => by simp at h3; omega
theorem Srt.take {a b : Int} {l : List Rec} (h : Srt a b l) (N : Nat) : Srt a b (l.take N) := fun p q h1 h2 h3 => by
  rw [List.length_take] at h3
  have hag : Ag l (l.take N) q := (Ag.refl (by omega)).take (by omega)
  rw [← hag.tn (p := p) (by omega), ← hag.tn (p := q) (by omega)]
  exact h p q h1 h2 (by omega)
theorem Srt.snoc {a b : Int} {l : List Rec} (h : Srt a b l) (x : Rec) (h1 : a ≤ x.term) (h2 : b = x.term) : Srt a b (l ++ [x]) := fun p q k1 k2 k3 => by
  simp at k3
  by_cases hq : q ≤ l.length
  · rw [tn_append _ _ _ (by omega), tn_append _ _ _ hq]; exact h p q k1 k2 hq
  · obtain rfl : q = l.length + 1 := by omega
    rw [tn_snoc]
    by_cases hp : p ≤ l.length
    · rw [tn_append _ _ _ hp]
      have := h p p k1 (Nat.le_refl _) hp
      omega
    · obtain rfl : p = l.length + 1 := by omega
      rw [tn_snoc]; omega
theorem srt_sound : ∀ (l : List Rec) (a b : Int), sound l a b = true → Srt a b l
  | [], a, b, _ => Srt.nil a b
  | x :: l, a, b, hs => by
    unfold sound at hs
    by_cases hc : x.term < a ∨ b < x.term ∨ 2000 < x.data.size
    · rw [if_pos hc] at hs; cases hs
    rw [if_neg hc] at hs
    have ih := srt_sound l x.term b hs
    intro p q h1 h2 h3
    obtain ⟨p, rfl⟩ : ∃ p', p = p' + 1 := ⟨p - 1, by omega⟩
    obtain ⟨q, rfl⟩ : ∃ q', q = q' + 1 := ⟨q - 1, by omega⟩
    have e : ∀ k, tn (x :: l) (k + 2) = tn l (k + 1) := fun k => by rw [tn_succ, tn_succ, List.getD_cons_succ]
    have e0 : tn (x :: l) 1 = x.term := by rw [tn_succ]; rfl
    simp at h3
    cases p with
    | zero =>
      rw [Nat.zero_add, e0]
      cases q with
      | zero => rw [Nat.zero_add, e0]; omega
      | succ q => rw [e q]; have := ih (q + 1) (q + 1) (by omega) (Nat.le_refl _) (by omega); omega
    | succ p =>
      obtain ⟨q, rfl⟩ : ∃ q', q = q' + 1 := ⟨q - 1, by omega⟩
      rw [e p, e q]
      have := ih (p + 1) (q + 1) (by omega) (by omega) (by omega)
      omega

/-! ### The ghost state -/
/-- Beside the replicas: the term of each; whom each voted for in a term (-1: nobody); the log with which it asked in a term; the leader of a term (-1: none) and its log; up to which number each has acknowledged the leader's log of a term. -/
structure Gh where
  cur : Nat → Int
  vt : Nat → Int → Int
  cl : Nat → Int → List Rec
  ld : Int → Int
  el : Int → List Rec
  ak : Nat → Int → Nat

/-- Each entry comes, with all before it, from the leader of its term. -/
def GL (g : Gh) (l : List Rec) : Prop := ∀ p, 1 ≤ p → p ≤ l.length → g.ld (tn l p) ≠ -1 ∧ Ag l (g.el (tn l p)) p
/-- Two of three will never acknowledge the number n of term T. -/
def Bl (g : Gh) (T : Int) (n : Nat) : Prop := ∃ a b, a < 3 ∧ b < 3 ∧ a ≠ b ∧ T < g.cur a ∧ g.ak a T < n ∧ T < g.cur b ∧ g.ak b T < n
/-- The number n of term T is chosen. -/
def Ch (g : Gh) (T : Int) (n : Nat) : Prop := 1 ≤ n ∧ n ≤ (g.el T).length ∧ tn (g.el T) n = T ∧ ∃ a b, a < 3 ∧ b < 3 ∧ a ≠ b ∧ n ≤ g.ak a T ∧ n ≤ g.ak b T
def Keeps (g : Gh) (l : List Rec) (T : Int) (n : Nat) : Prop := Ag (g.el T) l n ∨ Bl g T n
theorem Ch.noBl {g : Gh} {T : Int} {n : Nat} (h : Ch g T n) : ¬ Bl g T n := by
  rintro ⟨a, b, ha, hb, hab, h1, h2, h3, h4⟩
  obtain ⟨_, _, _, c, d, hc, hd, hcd, h5, h6⟩ := h
  have : a = c ∨ a = d ∨ b = c ∨ b = d := by omega
  rcases this with rfl | rfl | rfl | rfl <;> omega

structure GI (g : Gh) : Prop where
  ldv : ∀ T, g.ld T ≠ -1 → 0 ≤ g.ld T ∧ g.ld T < 3 ∧ ∃ a b, a < 3 ∧ b < 3 ∧ a ≠ b ∧ g.vt a T = g.ld T ∧ g.vt b T = g.ld T
  vto : ∀ v T (c : Nat), g.vt v T = c → g.vt c T = c
  el0 : ∀ T, g.ld T = -1 → g.el T = []
  els : ∀ T, Srt 1 T (g.el T)
  elg : ∀ T, GL g (g.el T)
  cls : ∀ v T, Srt 1 (T - 1) (g.cl v T)
  clg : ∀ v T, GL g (g.cl v T)
  vtc : ∀ v T, g.vt v T ≠ -1 → 1 ≤ T ∧ T ≤ g.cur v
  akl : ∀ v T, g.ak v T ≤ (g.el T).length
  akc : ∀ v T, g.ak v T ≠ 0 → T ≤ g.cur v
  own : ∀ T (i : Nat), g.ld T = i → g.ak i T = (g.el T).length
  vts : ∀ v T (c : Nat) T0 n, v < 3 → g.vt v T = c → T0 < T → 1 ≤ n → n ≤ g.ak v T0 → tn (g.el T0) n = T0 → Keeps g (g.cl c T) T0 n
  lc : ∀ T0 T n, T0 < T → g.ld T ≠ -1 → 1 ≤ n → n ≤ (g.el T0).length → tn (g.el T0) n = T0 → Keeps g (g.el T) T0 n

theorem GI.ldo {g : Gh} (G : GI g) (T : Int) (c : Nat) (h : g.ld T = c) : g.vt c T = c := by
  obtain ⟨_, _, a, _, _, _, _, h1, _⟩ := G.ldv T (by omega)
  exact G.vto a T c (by omega)

/-- What holds of replica i. -/
structure NodeOk (g : Gh) (i : Nat) (r : Rep) : Prop where
  id : r.id = i
  vN : r.votes.length = 3
  mN : r.mtch.length = 3
  srt : Srt 1 r.hard.term r.log
  com0 : 0 ≤ r.commit
  cur : g.cur i = r.hard.term
  vote : g.vt i r.hard.term = r.hard.vote
  gl : GL g r.log
  lead : r.role = 2 → g.ld r.hard.term = i ∧ g.el r.hard.term = r.log ∧ ∀ j, j < 3 → j ≠ i → r.mtch.getD j 0 ≤ g.ak j r.hard.term
  ask : r.role = 1 → g.vt i r.hard.term = i ∧ g.cl i r.hard.term = r.log ∧ g.ld r.hard.term ≠ i ∧ ∀ j, j < 3 → r.votes.getD j false = true → g.vt j r.hard.term = i
  cm : r.commit = 0 ∨ ∃ T n, Ch g T n ∧ T ≤ r.hard.term ∧ r.commit ≤ n ∧ Ag (g.el T) r.log r.commit.toNat
  ack : ∀ T n, 1 ≤ n → n ≤ g.ak i T → tn (g.el T) n = T → Keeps g r.log T n
  akT : Ag (g.el r.hard.term) r.log (g.ak i r.hard.term)

/-- What holds of each message that was ever sent. -/
structure MsgOk (g : Gh) (m : Msg) : Prop where
  k0 : m.kind = 0 → ∃ c : Nat, m.fr = c ∧ c < 3 ∧ g.vt c m.term = c ∧ m.index = (g.cl c m.term).length ∧ m.prev = tn (g.cl c m.term) (g.cl c m.term).length
  k1 : m.kind = 1 → m.yes = true → ∃ c : Nat, m.fr = c ∧ c < 3 ∧ 0 ≤ m.to ∧ g.vt c m.term = m.to
  k2 : m.kind = 2 → ∃ (c p : Nat), m.fr = c ∧ m.index = p ∧ g.ld m.term = c ∧ p + m.recs.length ≤ (g.el m.term).length ∧ m.recs = ((g.el m.term).drop p).take m.recs.length ∧
    m.prev = tn (g.el m.term) p ∧ (m.commit = 0 ∨ ∃ T0 n, Ch g T0 n ∧ T0 ≤ m.term ∧ m.commit ≤ n)
  k3 : m.kind = 3 → m.yes = true → ∃ (c p : Nat), m.fr = c ∧ c < 3 ∧ m.index = p ∧ p ≤ g.ak c m.term

/-! ### How the ghost state goes on -/
structure Ext (g g' : Gh) : Prop where
  cur : ∀ v, g.cur v ≤ g'.cur v
  vt : ∀ v T, g.vt v T ≠ -1 → g'.vt v T = g.vt v T
  cl : ∀ v T, T ≤ g.cur v → g'.cl v T = g.cl v T
  ld : ∀ T, g.ld T ≠ -1 → g'.ld T = g.ld T
  el : ∀ T, ∃ l, g'.el T = g.el T ++ l
  ak : ∀ v T, g.ak v T ≤ g'.ak v T
  akO : ∀ v T, T < g.cur v → g'.ak v T = g.ak v T
theorem Ext.refl (g : Gh) : Ext g g := ⟨fun _ => Int.le_refl _, fun _ _ _ => rfl, fun _ _ _ => rfl, fun _ _ => rfl, fun _ => ⟨[], by simp⟩, fun _ _ => Nat.le_refl _, fun _ _ _ => rfl⟩
theorem Ext.trans {a b c : Gh} (h : Ext a b) (k : Ext b c) : Ext a c where
  cur v := Int.le_trans (h.cur v) (k.cur v)
  vt v T e := by have e1 := h.vt v T e; rw [k.vt v T (by rw [e1]; exact e), e1]
  cl v T e := by rw [k.cl v T (Int.le_trans e (h.cur v)), h.cl v T e]
  ld T e := by have e1 := h.ld T e; rw [k.ld T (by rw [e1]; exact e), e1]
  el T := by
    obtain ⟨l1, h1⟩ := h.el T
    obtain ⟨l2, h2⟩ := k.el T
    exact ⟨l1 ++ l2, by rw [h2, h1, List.append_assoc]⟩
  ak v T := Nat.le_trans (h.ak v T) (k.ak v T)
  akO v T e := by rw [k.akO v T (Int.lt_of_lt_of_le e (h.cur v)), h.akO v T e]
section
variable {g g' : Gh} (E : Ext g g')
include E
theorem Ext.agL {T : Int} {l : List Rec} {n : Nat} (h : Ag (g.el T) l n) : Ag (g'.el T) l n := by
  obtain ⟨c, hc⟩ := E.el T; rw [hc]; exact h.appL c
theorem Ext.agR {T : Int} {l : List Rec} {n : Nat} (h : Ag l (g.el T) n) : Ag l (g'.el T) n := (E.agL h.symm).symm
theorem Ext.tn {T : Int} {n : Nat} (h : n ≤ (g.el T).length) : tn (g'.el T) n = tn (g.el T) n := by
  obtain ⟨c, hc⟩ := E.el T; rw [hc]; exact tn_append _ _ _ h
theorem Ext.len (T : Int) : (g.el T).length ≤ (g'.el T).length := by
  obtain ⟨c, hc⟩ := E.el T; rw [hc]; simp
theorem Ext.gl {l : List Rec} (h : GL g l) : GL g' l := fun p h1 h2 => by
  obtain ⟨h3, h4⟩ := h p h1 h2
  exact ⟨by rw [E.ld _ h3]; exact h3, E.agR h4⟩
theorem Ext.bl {T : Int} {n : Nat} (h : Bl g T n) : Bl g' T n := by
  obtain ⟨a, b, ha, hb, hab, h1, h2, h3, h4⟩ := h
  exact ⟨a, b, ha, hb, hab, Int.lt_of_lt_of_le h1 (E.cur a), by rw [E.akO a T h1]; exact h2, Int.lt_of_lt_of_le h3 (E.cur b), by rw [E.akO b T h3]; exact h4⟩
theorem Ext.keeps {l : List Rec} {T : Int} {n : Nat} (h : Keeps g l T n) : Keeps g' l T n := h.imp E.agL E.bl
theorem Ext.ch {T : Int} {n : Nat} (h : Ch g T n) : Ch g' T n := by
  obtain ⟨h1, h2, h3, a, b, ha, hb, hab, h4, h5⟩ := h
  exact ⟨h1, Nat.le_trans h2 (E.len T), by rw [E.tn h2]; exact h3, a, b, ha, hb, hab, Nat.le_trans h4 (E.ak a T), Nat.le_trans h5 (E.ak b T)⟩
theorem Ext.msg (G : GI g) {m : Msg} (h : MsgOk g m) : MsgOk g' m where
  k0 e := by
    obtain ⟨c, h1, h2, h3, h4, h5⟩ := h.k0 e
    have h6 : g.vt c m.term ≠ -1 := by omega
    have h7 := E.cl c m.term (G.vtc c m.term h6).2
    exact ⟨c, h1, h2, by rw [E.vt _ _ h6]; exact h3, by rw [h7]; exact h4, by rw [h7]; exact h5⟩
  k1 e y := by
    obtain ⟨c, h1, h2, h3, h4⟩ := h.k1 e y
    exact ⟨c, h1, h2, h3, by rw [E.vt _ _ (by omega)]; exact h4⟩
  k2 e := by
    obtain ⟨c, p, h0, h1, h2, h3, h4, h5, h6⟩ := h.k2 e
    refine ⟨c, p, h0, h1, by rw [E.ld _ (by omega)]; exact h2, Nat.le_trans h3 (E.len _), ?_, by rw [E.tn (by omega)]; exact h5, h6.imp (fun h => h) fun ⟨T0, n, k1, k2, k3⟩ => ⟨T0, n, E.ch k1, k2, k3⟩⟩
    obtain ⟨l, hl⟩ := E.el m.term
    rw [hl, List.drop_append_of_le_length (by omega), List.take_append_of_le_length (by rw [List.length_drop]; omega)]
    exact h4
  k3 e y := by
    obtain ⟨c, p, h1, h2, h3, h4⟩ := h.k3 e y
    exact ⟨c, p, h1, h2, h3, Nat.le_trans h4 (E.ak _ _)⟩
end
/-- What a step of another replica leaves of replica j. -/
structure Far (g g' : Gh) (j : Nat) : Prop where
  cur : g'.cur j = g.cur j
  vt : ∀ T, g'.vt j T = g.vt j T
  ak : ∀ T, g'.ak j T = g.ak j T
  el : ∀ T, g.ld T = j → g'.el T = g.el T
  ld : ∀ T, g'.ld T = j → g.ld T = j
theorem NodeOk.far {g g' : Gh} {j : Nat} {r : Rep} (h : NodeOk g j r) (G : GI g) (E : Ext g g') (F : Far g g' j) : NodeOk g' j r where
  id := h.id
  vN := h.vN
  mN := h.mN
  srt := h.srt
  com0 := h.com0
  cur := by rw [F.cur]; exact h.cur
  vote := by rw [F.vt]; exact h.vote
  gl := E.gl h.gl
  lead e := by
    obtain ⟨h1, h2, h3⟩ := h.lead e
    refine ⟨by rw [E.ld _ (by omega)]; exact h1, by rw [F.el _ h1]; exact h2, fun k k1 k2 => Int.le_trans (h3 k k1 k2) (by have := E.ak k r.hard.term; omega)⟩
  ask e := by
    obtain ⟨h1, h2, h3, h4⟩ := h.ask e
    refine ⟨by rw [F.vt]; exact h1, by rw [E.cl _ _ (by rw [h.cur]; exact Int.le_refl _)]; exact h2, fun e => h3 (F.ld _ e), fun k k1 k2 => ?_⟩
    have := h4 k k1 k2
    rw [E.vt _ _ (by omega)]; exact this
  cm := h.cm.imp (fun h => h) fun ⟨T, n, h1, h2, h3, h4⟩ => ⟨T, n, E.ch h1, h2, h3, E.agL h4⟩
  ack T n h1 h2 h3 := by
    rw [F.ak] at h2
    rw [E.tn (Nat.le_trans h2 (G.akl j T))] at h3
    exact E.keeps (h.ack T n h1 h2 h3)
  akT := by rw [F.ak]; exact E.agL h.akT

def up {α : Type} (f : Nat → α) (i : Nat) (x : α) : Nat → α := fun v => if v = i then x else f v
def upT {α : Type} (f : Int → α) (i : Int) (x : α) : Int → α := fun v => if v = i then x else f v
def up2 {α : Type} (f : Nat → Int → α) (i : Nat) (T : Int) (x : α) : Nat → Int → α := fun v t => if v = i ∧ t = T then x else f v t
theorem up_at {α : Type} (f : Nat → α) (i : Nat) (x : α) : up f i x i = x := if_pos rfl
theorem up_ne {α : Type} (f : Nat → α) {i j : Nat} (x : α) (h : j ≠ i) : up f i x j = f j := if_neg h
theorem upT_at {α : Type} (f : Int → α) (i : Int) (x : α) : upT f i x i = x := if_pos rfl
theorem upT_ne {α : Type} (f : Int → α) {i j : Int} (x : α) (h : j ≠ i) : upT f i x j = f j := if_neg h
theorem up2_at {α : Type} (f : Nat → Int → α) (i : Nat) (T : Int) (x : α) : up2 f i T x i T = x := if_pos ⟨rfl, rfl⟩
theorem up2_ne {α : Type} (f : Nat → Int → α) {i j : Nat} {T t : Int} (x : α) (h : j ≠ i ∨ t ≠ T) : up2 f i T x j t = f j t := if_neg (by omega)

structure Inv (g : Gh) (R : Nat → Rep) : Prop where
  gi : GI g
  node : ∀ j, j < 3 → NodeOk g j (R j)
theorem Inv.step {g g' : Gh} {R : Nat → Rep} {i : Nat} {r' : Rep} (h : Inv g R) (E : Ext g g') (F : ∀ j, j < 3 → j ≠ i → Far g g' j) (G : GI g') (hn : NodeOk g' i r') : Inv g' (up R i r') := by
  refine ⟨G, fun j hj => ?_⟩
  by_cases e : j = i
  · subst e; rw [up_at]; exact hn
  · rw [up_ne _ _ e]; exact (h.node j hj).far h.gi E (F j hj e)
end M
end Go.Proofs.Ytodmihpmbecncaa
