/-
  Safety of the replicas' protocol, part 4: each operation on the cluster keeps the invariant. No condition; no program in it.
-/
import Derived.Test.YtodmihpmbecncaaPn
namespace Go.Proofs.Ytodmihpmbecncaa
namespace M

/-- What is handed back to be stored makes of the old hard state and log the new ones. -/
def Stores (r r' : Rep) (o : Out) : Prop :=
  (if o.save = true then o.hard else r.hard) = r'.hard ∧ (if 0 < o.fr then r.log.take (min (o.fr - 1) r.log.length).toNat ++ o.recs else r.log) = r'.log
def LogSt (r r' : Rep) (o : Out) : Prop := o.save = false ∧ (if 0 < o.fr then r.log.take (min (o.fr - 1) r.log.length).toNat ++ o.recs else r.log) = r'.log

theorem tick_stores (r : Rep) : Stores r (tick r).1 (tick r).2 := by
  unfold tick
  split
  · exact ⟨rfl, rfl⟩
  · split <;> exact ⟨rfl, rfl⟩
theorem vote_log (r : Rep) (m : Msg) : LogSt r (vote r m).1 (vote r m).2 := by
  unfold vote
  dsimp only
  split <;> exact ⟨rfl, rfl⟩
theorem voted_log (r : Rep) (m : Msg) : LogSt r (voted r m).1 (voted r m).2 := by
  unfold voted
  split
  · exact ⟨rfl, rfl⟩
  · dsimp only
    split <;> exact ⟨rfl, rfl⟩
theorem appended_log (r : Rep) (m : Msg) : LogSt r (appended r m).1 (appended r m).2 := by
  unfold appended
  split
  · exact ⟨rfl, rfl⟩
  · dsimp only
    split
    · exact ⟨rfl, rfl⟩
    · split
      · refine ⟨rfl, ?_⟩
        show r.log = (advance _).log
        rw [(advance_same _).1]
      · refine ⟨rfl, ?_⟩
        show r.log = (advance _).log
        rw [(advance_same _).1]
theorem append_log (r : Rep) (m : Msg) (h0 : 0 ≤ m.index) : LogSt r (append r m).1 (append r m).2 := by
  unfold append
  dsimp only
  split
  · exact ⟨rfl, rfl⟩
  split
  · exact ⟨rfl, rfl⟩
  split
  · exact ⟨rfl, rfl⟩
  rename_i h3
  have hl : m.index ≤ r.log.length := by omega
  have ha := agree_in r.log m.index m.recs h0 hl
  split
  · split
    · exact ⟨rfl, rfl⟩
    · refine ⟨rfl, ?_⟩
      rw [if_pos (by show 0 < m.index + (agree r.log m.index m.recs : Int) + 1; omega)]
      show r.log.take (min (m.index + (agree r.log m.index m.recs : Int) + 1 - 1) r.log.length).toNat ++ _ = _
      rw [show min (m.index + (agree r.log m.index m.recs : Int) + 1 - 1) (r.log.length : Int) = m.index + (agree r.log m.index m.recs : Int) + 1 - 1 from by omega]
  · exact ⟨rfl, rfl⟩
theorem propose_stores (r : Rep) (d : ByteArray) : Stores r (propose r d).1 (propose r d).2.2.2 := by
  unfold propose
  split
  · exact ⟨rfl, rfl⟩
  split
  · exact ⟨rfl, rfl⟩
  split
  · exact ⟨rfl, rfl⟩
  refine ⟨rfl, ?_⟩
  dsimp only
  rw [if_pos (by simp)]
  have : (min (((r.log ++ [(⟨r.hard.term, d⟩ : Rec)]).length : Int) - 1) r.log.length).toNat = r.log.length := by simp
  rw [this, List.take_length]
theorem hear_stores (r : Rep) (m : Msg) : Stores r (hear r m).1 (hear r m).2 := by
  unfold hear
  split
  · exact ⟨rfl, rfl⟩
  rename_i hr
  have hr : right r m = true := by cases h : right r m <;> simp_all
  have h0 := (right_of hr).2.2.2.2.2.1
  dsimp only
  generalize hr1 : (if r.hard.term < m.term then ({ r with hard := ⟨m.term, -1⟩, role := 0 } : Rep) else r) = r1
  have e1 : r1.log = r.log := by rw [← hr1]; split <;> rfl
  have key : LogSt r1 (if m.kind = 0 then vote r1 m else if m.kind = 1 then voted r1 m else if m.kind = 2 then append r1 m else appended r1 m).1 (if m.kind = 0 then vote r1 m else if m.kind = 1 then voted r1 m else if m.kind = 2 then append r1 m else appended r1 m).2 := by
    split
    · exact vote_log r1 m
    split
    · exact voted_log r1 m
    split
    · exact append_log r1 m h0
    · exact appended_log r1 m
  revert key
  generalize (if m.kind = 0 then vote r1 m else if m.kind = 1 then voted r1 m else if m.kind = 2 then append r1 m else appended r1 m) = ro
  obtain ⟨r2, o⟩ := ro
  rintro ⟨k1, k2⟩
  rw [e1] at k2
  show Stores r r2 (if r2.hard ≠ r.hard then { o with save := true, hard := r2.hard } else o)
  split
  · exact ⟨rfl, k2⟩
  · rename_i hn
    refine ⟨?_, k2⟩
    rw [k1]
    exact (Decidable.byContradiction fun h => hn fun e => h e.symm)

/-- The replicas of a cluster. -/
def Rf (x : Cl) : Nat → Rep := fun i => x.r.getD i zRep
structure PInv (x : Cl) (g : Gh) : Prop where
  inv : Inv g (Rf x)
  rN : x.r.length = 3
  sN : x.s.length = 3
  st : ∀ i, i < 3 → (x.s.getD i zSt).hard = (Rf x i).hard ∧ (x.s.getD i zSt).log = (Rf x i).log
  msg : ∀ m ∈ x.sent, MsgOk g m

theorem getD_set_eq {α : Type} (l : List α) (i : Nat) (x z : α) (h : i < l.length) : (l.set i x).getD i z = x := by
  rw [List.getD_eq_getElem?_getD, List.getElem?_set, if_pos rfl, if_pos h]; rfl
theorem getD_set_ne {α : Type} (l : List α) {i j : Nat} (x z : α) (h : i ≠ j) : (l.set i x).getD j z = l.getD j z := by
  rw [List.getD_eq_getElem?_getD, List.getElem?_set_ne h, ← List.getD_eq_getElem?_getD]
theorem rf_set (l : List Rep) (i : Nat) (r : Rep) (h : i < l.length) : (fun j => (l.set i r).getD j zRep) = up (fun j => l.getD j zRep) i r := by
  funext j
  by_cases e : j = i
  · subst e; rw [up_at, getD_set_eq _ _ _ _ h]
  · rw [up_ne _ _ e, getD_set_ne _ _ _ (fun h => e h.symm)]

section
variable {x : Cl} {g : Gh} (P : PInv x g) {i : Nat} (hi : i < 3)
include P hi

theorem pinv_start : PInv (start x i) g := by
  have hr : i < x.r.length := by rw [P.rN]; exact hi
  have hs : i < x.s.length := by rw [P.sN]; exact hi
  have hm : made i (x.s.getD i zSt) = made i ⟨(Rf x i).hard, (Rf x i).log, 0⟩ := by
    unfold made; rw [(P.st i hi).1, (P.st i hi).2]
  have hRf : Rf (start x i) = up (Rf x) i (made i ⟨(Rf x i).hard, (Rf x i).log, 0⟩) := by
    rw [← hm]; exact rf_set _ _ _ hr
  refine ⟨by rw [hRf]; exact inv_start P.inv hi, by simp [start, P.rN], by simp [start, P.sN], fun j hj => ?_, P.msg⟩
  rw [hRf]
  show ((x.s.set i { x.s.getD i zSt with stop := 0 }).getD j zSt).hard = _ ∧ ((x.s.set i { x.s.getD i zSt with stop := 0 }).getD j zSt).log = _
  by_cases e : j = i
  · subst e; rw [getD_set_eq _ _ _ _ hs, up_at]; exact P.st j hj
  · rw [getD_set_ne _ _ _ (fun h => e h.symm), up_ne _ _ e]; exact P.st j hj

theorem pinv_done {r' : Rep} {o : Out} (hg : Good g (Rf x) i r' o) (hst : Stores (Rf x i) r' o) : ∃ g', Ext g g' ∧ PInv (done { x with r := x.r.set i r' } i o) g' := by
  have hr : i < x.r.length := by rw [P.rN]; exact hi
  have hs : i < x.s.length := by rw [P.sN]; exact hi
  unfold done
  dsimp only
  split
  · refine ⟨g, Ext.refl g, ?_⟩
    have : start { x with r := x.r.set i r' } i = start x i := by unfold start; simp
    rw [this]
    exact pinv_start P hi
  · obtain ⟨g', E, I', hm⟩ := hg
    have hst' : (kept (x.s.getD i zSt) o).hard = r'.hard ∧ (kept (x.s.getD i zSt) o).log = r'.log := by
      unfold kept
      rw [(P.st i hi).1, (P.st i hi).2]
      exact hst
    have P1 : ∀ S : List Msg, (∀ m ∈ S, MsgOk g' m) → PInv ⟨x.r.set i r', x.s.set i (kept (x.s.getD i zSt) o), S⟩ g' := fun S hS => by
      have hRf : Rf ⟨x.r.set i r', x.s.set i (kept (x.s.getD i zSt) o), S⟩ = up (Rf x) i r' := rf_set _ _ _ hr
      refine ⟨by rw [hRf]; exact I', by simp [P.rN], by simp [P.sN], fun j hj => ?_, hS⟩
      rw [hRf]
      show ((x.s.set i _).getD j zSt).hard = _ ∧ ((x.s.set i _).getD j zSt).log = _
      by_cases e : j = i
      · subst e; rw [getD_set_eq _ _ _ _ hs, up_at]; exact hst'
      · rw [getD_set_ne _ _ _ (fun h => e h.symm), up_ne _ _ e]; exact P.st j hj
    have hold : ∀ m ∈ x.sent, MsgOk g' m := fun m h => E.msg P.inv.gi (P.msg m h)
    split
    · exact ⟨g', E, pinv_start (P1 _ hold) hi⟩
    · refine ⟨g', E, P1 _ fun m h => ?_⟩
      rcases List.mem_append.1 h with h | h
      · exact hold m h
      · exact hm m (List.mem_of_mem_take h)
end

theorem pick3 (n : Int) : (pick n 3).toNat < 3 := by
  unfold pick
  rw [if_neg (by decide)]
  have := Int.emod_nonneg n (show (3 : Int) ≠ 0 by decide)
  have := Int.emod_lt_of_pos n (show (0 : Int) < 3 by decide)
  omega
theorem pinv_sub {x : Cl} {g : Gh} (P : PInv x g) {S : List Msg} (h : ∀ m ∈ S, m ∈ x.sent) : PInv { x with sent := S } g :=
  ⟨P.inv, P.rN, P.sN, P.st, fun m hm => P.msg m (h m hm)⟩
theorem mem_cut {α : Type} (l : List α) (n : Nat) (m : α) (h : m ∈ l.take n ++ l.drop (n + 1)) : m ∈ l :=
  (List.mem_append.1 h).elim List.mem_of_mem_take List.mem_of_mem_drop
theorem mem_getD {α : Type} (l : List α) (n : Nat) (z : α) (h : n < l.length) : l.getD n z ∈ l := by
  rw [List.getD_eq_getElem?_getD, List.getElem?_eq_getElem h]; exact List.getElem_mem h

theorem pinv_arrive {x : Cl} {g : Gh} (P : PInv x g) (W : ∀ i, i < 3 → WF (Rf x i)) (n : Int) (keep : Bool) : ∃ g', Ext g g' ∧ PInv (arrive x n keep) g' := by
  unfold arrive
  split
  · exact ⟨g, Ext.refl g, P⟩
  rename_i hl
  dsimp only
  have hk : (pick n x.sent.length).toNat < x.sent.length := by
    unfold pick
    rw [if_neg (by omega)]
    have := Int.emod_nonneg n (show (x.sent.length : Int) ≠ 0 by omega)
    have := Int.emod_lt_of_pos n (show (0 : Int) < x.sent.length by omega)
    omega
  have hm := P.msg _ (mem_getD x.sent _ zMsg hk)
  generalize x.sent.getD (pick n x.sent.length).toNat zMsg = m at hm
  have hi := pick3 m.to
  generalize (pick m.to 3).toNat = i at hi
  have P1 : PInv (if keep = true then x else { x with sent := x.sent.take (pick n x.sent.length).toNat ++ x.sent.drop ((pick n x.sent.length).toNat + 1) }) g := by
    split
    · exact P
    · exact pinv_sub P fun m h => mem_cut _ _ m h
  have W1 : ∀ i, i < 3 → WF (Rf (if keep = true then x else { x with sent := x.sent.take (pick n x.sent.length).toNat ++ x.sent.drop ((pick n x.sent.length).toNat + 1) }) i) := by
    split <;> exact W
  generalize (if keep = true then x else { x with sent := x.sent.take (pick n x.sent.length).toNat ++ x.sent.drop ((pick n x.sent.length).toNat + 1) }) = y at P1 W1
  exact pinv_done P1 hi (hear_good P1.inv hi (W1 i hi) hm) (hear_stores _ _)

theorem node_lt {g : Gh} {i : Nat} {r : Rep} (G : GI g) (N : NodeOk g i r) (h0 : 0 ≤ r.role) (h2 : r.role ≤ 2) : LT r := by
  intro hr
  have h3 : r.role = 1 ∨ r.role = 2 := by omega
  rcases h3 with h3 | h3
  · have := (N.ask h3).1
    exact (G.vtc i _ (by omega)).1
  · have := G.ldo _ i (N.lead h3).1
    exact (G.vtc i _ (by omega)).1
theorem pinv_lt {x : Cl} {g : Gh} (P : PInv x g) (W : ∀ i, i < 3 → WF (Rf x i)) : ∀ i, i < 3 → LT (Rf x i) :=
  fun i hi => node_lt P.inv.gi (P.inv.node i hi) (W i hi).role0 (W i hi).role2

theorem pinv_step {x : Cl} {g : Gh} (P : PInv x g) (W : ∀ i, i < 3 → WF (Rf x i)) (o : Op) : ∃ g', Ext g g' ∧ PInv (step x o) g' := by
  have hi := pick3 o.who
  unfold step
  dsimp only
  generalize (pick o.who 3).toNat = i at hi
  split
  · split
    · exact ⟨g, Ext.refl g, pinv_sub P fun m h => mem_cut _ _ m h⟩
    · exact ⟨g, Ext.refl g, P⟩
  split
  · exact pinv_arrive P W _ _
  split
  · exact pinv_done P hi (tick_good P.inv hi (W i hi)) (tick_stores _)
  split
  · exact pinv_done P hi (propose_good P.inv hi (W i hi) o.data (pinv_lt P W i hi)) (propose_stores _ _)
  split
  · exact ⟨g, Ext.refl g, pinv_start P hi⟩
  split
  · refine ⟨g, Ext.refl g, P.inv, P.rN, by simp [P.sN], fun j hj => ?_, P.msg⟩
    have hs : i < x.s.length := by rw [P.sN]; exact hi
    show ((x.s.set i { x.s.getD i zSt with stop := _ }).getD j zSt).hard = _ ∧ ((x.s.set i { x.s.getD i zSt with stop := _ }).getD j zSt).log = _
    by_cases e : j = i
    · subst e; rw [getD_set_eq _ _ _ _ hs]; exact P.st j hj
    · rw [getD_set_ne _ _ _ (fun h => e h.symm)]; exact P.st j hj
  · exact pinv_arrive P W _ _

/-- The ghost state at the beginning. -/
def gh0 : Gh := ⟨fun _ => 0, fun _ _ => -1, fun _ _ => [], fun _ => -1, fun _ => [], fun _ _ => 0⟩
theorem gl_nil (g : Gh) : GL g [] := fun p h1 h2 => by simp at h2; omega
theorem pinv_begin : PInv begin_ gh0 := by
  have hR : ∀ i, i < 3 → Rf begin_ i = made i ⟨⟨0, -1⟩, [], 0⟩ := fun i hi => by
    have : i = 0 ∨ i = 1 ∨ i = 2 := by omega
    rcases this with rfl | rfl | rfl <;> rfl
  refine ⟨⟨?_, fun i hi => ?_⟩, rfl, rfl, fun i hi => ?_, fun m hm => by cases hm⟩
  · exact { ldv := fun T h => absurd rfl h, vto := fun v T c h => by change (-1 : Int) = c at h; omega, el0 := fun _ _ => rfl, els := fun T => Srt.nil _ _, elg := fun T => gl_nil _, cls := fun _ _ => Srt.nil _ _, clg := fun _ _ => gl_nil _,
            vtc := fun _ _ h => absurd rfl h, akl := fun _ _ => Nat.le_refl _, akc := fun _ _ h => absurd rfl h, own := fun T c h => by change (-1 : Int) = c at h; omega,
            vts := fun _ _ _ _ n _ _ _ h1 h2 _ => by change n ≤ 0 at h2; omega, lc := fun _ _ n _ _ h1 h2 _ => by change n ≤ 0 at h2; omega }
  · rw [hR i hi]
    exact { id := rfl, vN := rfl, mN := rfl, srt := Srt.nil _ _, com0 := Int.le_refl _, cur := rfl, vote := rfl, gl := gl_nil _, lead := fun (e : (0 : Int) = 2) => absurd e (by decide), ask := fun (e : (0 : Int) = 1) => absurd e (by decide),
            cm := .inl rfl, ack := fun T n h1 h2 _ => by change n ≤ 0 at h2; omega, akT := Ag.zero _ _ }
  · rw [hR i hi]
    have : i = 0 ∨ i = 1 ∨ i = 2 := by omega
    rcases this with rfl | rfl | rfl <;> exact ⟨rfl, rfl⟩

/-- Two of the chosen do not contradict each other. -/
theorem chosen_pre {g : Gh} (G : GI g) {T1 T2 : Int} {n1 : Nat} (h1 : Ch g T1 n1) (hT : T1 ≤ T2) (hl : g.ld T2 ≠ -1) : Ag (g.el T1) (g.el T2) n1 := by
  by_cases e : T1 = T2
  · subst e; exact Ag.refl h1.2.1
  · rcases G.lc T1 T2 n1 (by omega) hl h1.1 h1.2.1 h1.2.2.1 with h | h
    · exact h
    · exact absurd h h1.noBl
end M
end Go.Proofs.Ytodmihpmbecncaa
