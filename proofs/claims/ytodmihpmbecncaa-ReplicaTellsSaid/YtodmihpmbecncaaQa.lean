/-
  How the reference's replica (package errataref08) lies in memory, and the walks of its sound, term and message. Each computes what the model says.
-/
import Derived.Test.YtodmihpmbecncaaWkP
namespace Go.Proofs.Ytodmihpmbecncaa
open Go.RowKit

def boxv (g : Nat) : Value := .slice (some ⟨g, 0, none⟩) 3 3
def qCells (r : Rep) (lv : Value) (gv gn gm : Nat) : List Value :=
  [.int .i64 r.id, .int .i64 r.hard.term, .int .i64 r.hard.vote, lv, .int .i64 r.role, .int .i64 r.commit, boxv gv, boxv gn, boxv gm]

/-- The reference's replica r lies in block b; its log in A's block, its three lists in the blocks gv, gn, gm. -/
structure QB (w : World) (b : Nat) (r : Rep) (A : Option Addr) (cap gv gn gm : Nat) : Prop where
  blk : w.heap[b]? = some (.cells (qCells r (.slice A r.log.length cap) gv gn gm).toArray 67)
  own : w.ownsRow 0 55 2 (.slice A r.log.length cap) r.log.length (recsCells r.log)
  vo : w.heap[gv]? = some (.cells (bools r.votes).toArray 4)
  no : w.heap[gn]? = some (.cells (ints r.next).toArray 3)
  mo : w.heap[gm]? = some (.cells (ints r.mtch).toArray 3)
  nm : gn ≠ gm
  vN : r.votes.length = 3
  nN : r.next.length = 3
  mN : r.mtch.length = 3
/-- The blocks that it may write. -/
def QS (b : Nat) (A : Option Addr) (gv gn gm : Nat) (k : Nat) : Prop := k = b ∨ (∃ ad, A = some ad ∧ ad.block = k) ∨ k = gv ∨ k = gn ∨ k = gm

section
variable {w : World} {b : Nat} {r : Rep} {A : Option Addr} {cap gv gn gm : Nat}
theorem QB.lt (h : QB w b r A cap gv gn gm) : b < w.heap.size := lt_blk h.blk
theorem QB.kind (h : QB w b r A cap gv gn gm) : Kind w b 67 := ⟨_, _, h.blk⟩
theorem QB.kv (h : QB w b r A cap gv gn gm) : Kind w gv 4 := ⟨_, _, h.vo⟩
theorem QB.kn (h : QB w b r A cap gv gn gm) : Kind w gn 3 := ⟨_, _, h.no⟩
theorem QB.km (h : QB w b r A cap gv gn gm) : Kind w gm 3 := ⟨_, _, h.mo⟩
theorem QB.kA (h : QB w b r A cap gv gn gm) {ad : Addr} (e : A = some ad) : Kind w ad.block 55 := own_kind h.own (k := ad.block) (by rw [e]; rfl)
theorem QB.ltA (h : QB w b r A cap gv gn gm) : ∀ ad, A = some ad → ad.block < w.heap.size := fun ad e => (own_lt h.own (by rw [e]; rfl)).2
theorem QB.ltS (h : QB w b r A cap gv gn gm) {k : Nat} (hk : QS b A gv gn gm k) : k < w.heap.size := by
  rcases hk with rfl | ⟨ad, e, rfl⟩ | rfl | rfl | rfl
  · exact h.lt
  · exact h.ltA ad e
  · exact lt_blk h.vo
  · exact lt_blk h.no
  · exact lt_blk h.mo
theorem QB.cells (h : QB w b r A cap gv gn gm) :
    w.cell? ⟨b, 0, none⟩ = some (.int .i64 r.id) ∧ w.cell? ⟨b, 1, none⟩ = some (.int .i64 r.hard.term) ∧ w.cell? ⟨b, 2, none⟩ = some (.int .i64 r.hard.vote) ∧
    w.cell? ⟨b, 3, none⟩ = some (.slice A r.log.length cap) ∧ w.cell? ⟨b, 4, none⟩ = some (.int .i64 r.role) ∧ w.cell? ⟨b, 5, none⟩ = some (.int .i64 r.commit) ∧
    w.cell? ⟨b, 6, none⟩ = some (.slice (some ⟨gv, 0, none⟩) 3 3) ∧ w.cell? ⟨b, 7, none⟩ = some (.slice (some ⟨gn, 0, none⟩) 3 3) ∧ w.cell? ⟨b, 8, none⟩ = some (.slice (some ⟨gm, 0, none⟩) 3 3) :=
  ⟨cell_blk h.blk 0, cell_blk h.blk 1, cell_blk h.blk 2, cell_blk h.blk 3, cell_blk h.blk 4, cell_blk h.blk 5, cell_blk h.blk 6, cell_blk h.blk 7, cell_blk h.blk 8⟩
theorem QB.free (h : QB w b r A cap gv gn gm) (i : Nat) : w.frozen? ⟨b, i, none⟩ = false := free_blk h.blk i
theorem QB.fr {S : Nat → Prop} {w' : World} (h : QB w b r A cap gv gn gm) (hf : Fr S w w') (hS : ∀ k, QS b A gv gn gm k → ¬ S k) : QB w' b r A cap gv gn gm :=
  ⟨by rw [hf.block b h.lt (hS b (.inl rfl))]; exact h.blk, own_fr h.own hf fun k hk => hS k (.inr (.inl (by cases A with
    | none => cases hk
    | some ad => exact ⟨ad, rfl, Option.some.inj hk⟩))),
   by rw [hf.block gv (lt_blk h.vo) (hS gv (.inr (.inr (.inl rfl))))]; exact h.vo,
   by rw [hf.block gn (lt_blk h.no) (hS gn (.inr (.inr (.inr (.inl rfl)))))]; exact h.no,
   by rw [hf.block gm (lt_blk h.mo) (hS gm (.inr (.inr (.inr (.inr rfl)))))]; exact h.mo, h.nm, h.vN, h.nN, h.mN⟩
theorem QB.below {B : Nat} {w' : World} (h : QB w b r A cap gv gn gm) (hb : Below B w w') (hB : w.heap.size ≤ B) : QB w' b r A cap gv gn gm :=
  h.fr (S := fun _ => False) ⟨hb.os, hb.tape, hb.output, hb.size, fun k hk _ => hb.block k (Nat.lt_of_lt_of_le hk hB)⟩ (fun _ _ h => h)
theorem QB.drew (h : QB w b r A cap gv gn gm) : QB w.drew b r A cap gv gn gm := ⟨h.blk, h.own, h.vo, h.no, h.mo, h.nm, h.vN, h.nN, h.mN⟩
theorem QB.drewN (h : QB w b r A cap gv gn gm) (n : Nat) : QB (w.drewN n) b r A cap gv gn gm := ⟨h.blk, h.own, h.vo, h.no, h.mo, h.nm, h.vN, h.nN, h.mN⟩
theorem QB.alloc (h : QB w b r A cap gv gn gm) (o : Obj) : QB (w.alloc o) b r A cap gv gn gm :=
  h.below ((Below.refl _ _).alloc (Nat.le_refl _) _) (Nat.le_refl _)
theorem QB.far (h : QB w b r A cap gv gn gm) {a : Addr} (hb : ¬ QS b A gv gn gm a.block) (v : Value) : QB (w.setCell a v) b r A cap gv gn gm :=
  h.fr (S := fun k => k = a.block) (fr_setCell _ _ _) (fun _ hk e => hb (e ▸ hk))
theorem QB.votes (h : QB w b r A cap gv gn gm) (j : Nat) (hj : j < 3) : w.cell? ⟨gv, j, none⟩ = some (.bool (r.votes.getD j false)) := by
  have h1 := h.vN
  rw [cell_blk h.vo]
  simp [bools, h1, hj]
theorem QB.next (h : QB w b r A cap gv gn gm) (j : Nat) (hj : j < 3) : w.cell? ⟨gn, j, none⟩ = some (.int .i64 (r.next.getD j 0)) := by
  have h1 := h.nN
  rw [cell_blk h.no]
  simp [ints, h1, hj]
theorem QB.mtch (h : QB w b r A cap gv gn gm) (j : Nat) (hj : j < 3) : w.cell? ⟨gm, j, none⟩ = some (.int .i64 (r.mtch.getD j 0)) := by
  have h1 := h.mN
  rw [cell_blk h.mo]
  simp [ints, h1, hj]
theorem QB.freev (h : QB w b r A cap gv gn gm) (i : Nat) : w.frozen? ⟨gv, i, none⟩ = false := free_blk h.vo i
theorem QB.freen (h : QB w b r A cap gv gn gm) (i : Nat) : w.frozen? ⟨gn, i, none⟩ = false := free_blk h.no i
theorem QB.freem (h : QB w b r A cap gv gn gm) (i : Nat) : w.frozen? ⟨gm, i, none⟩ = false := free_blk h.mo i
/-- One cell of the struct is stored. -/
theorem QB.put (h : QB w b r A cap gv gn gm) (i : Nat) (v : Value) (r' : Rep) (hlog : r'.log = r.log) (hv : r'.votes = r.votes) (hn : r'.next = r.next) (hm : r'.mtch = r.mtch)
    (hc : (qCells r (.slice A r.log.length cap) gv gn gm).set i v = qCells r' (.slice A r.log.length cap) gv gn gm) : QB (w.setCell ⟨b, i, none⟩ v) b r' A cap gv gn gm := by
  have ho : ∀ k T, Kind w k T → T ≠ 67 → (w.setCell ⟨b, i, none⟩ v).heap[k]? = w.heap[k]? := fun k T hk hT => other_blk (hk.ne h.kind hT)
  refine ⟨?_, ?_, ?_, ?_, ?_, h.nm, by rw [hv]; exact h.vN, by rw [hn]; exact h.nN, by rw [hm]; exact h.mN⟩
  · rw [hlog, ← hc]; exact set_blk h.blk i v
  · rw [hlog]
    exact own_same h.own fun k hk => ho k 55 (own_kind h.own hk) (by decide)
  · rw [ho gv 4 h.kv (by decide), hv]; exact h.vo
  · rw [ho gn 3 h.kn (by decide), hn]; exact h.no
  · rw [ho gm 3 h.km (by decide), hm]; exact h.mo
theorem QB.putTerm (h : QB w b r A cap gv gn gm) (t : Int) : QB (w.setCell ⟨b, 1, none⟩ (.int .i64 t)) b { r with hard := ⟨t, r.hard.vote⟩ } A cap gv gn gm := h.put 1 _ _ rfl rfl rfl rfl rfl
theorem QB.putVote (h : QB w b r A cap gv gn gm) (t : Int) : QB (w.setCell ⟨b, 2, none⟩ (.int .i64 t)) b { r with hard := ⟨r.hard.term, t⟩ } A cap gv gn gm := h.put 2 _ _ rfl rfl rfl rfl rfl
theorem QB.putRole (h : QB w b r A cap gv gn gm) (t : Int) : QB (w.setCell ⟨b, 4, none⟩ (.int .i64 t)) b { r with role := t } A cap gv gn gm := h.put 4 _ _ rfl rfl rfl rfl rfl
theorem QB.putCommit (h : QB w b r A cap gv gn gm) (t : Int) : QB (w.setCell ⟨b, 5, none⟩ (.int .i64 t)) b { r with commit := t } A cap gv gn gm := h.put 5 _ _ rfl rfl rfl rfl rfl
theorem QB.putVotes (h : QB w b r A cap gv gn gm) (j : Nat) (t : Bool) : QB (w.setCell ⟨gv, j, none⟩ (.bool t)) b { r with votes := r.votes.set j t } A cap gv gn gm := by
  have ho : ∀ k T, Kind w k T → T ≠ 4 → (w.setCell ⟨gv, j, none⟩ (.bool t)).heap[k]? = w.heap[k]? := fun k T hk hT => other_blk (hk.ne h.kv hT)
  refine ⟨by rw [ho b 67 h.kind (by decide)]; exact h.blk, own_same h.own fun k hk => ho k 55 (own_kind h.own hk) (by decide), ?_, by rw [ho gn 3 h.kn (by decide)]; exact h.no, by rw [ho gm 3 h.km (by decide)]; exact h.mo, h.nm, by simpa using h.vN, h.nN, h.mN⟩
  have := set_blk h.vo j (.bool t)
  simpa [bools, List.map_set] using this
theorem QB.putNext (h : QB w b r A cap gv gn gm) (j : Nat) (t : Int) : QB (w.setCell ⟨gn, j, none⟩ (.int .i64 t)) b { r with next := r.next.set j t } A cap gv gn gm := by
  have ho : ∀ k T, Kind w k T → T ≠ 3 → (w.setCell ⟨gn, j, none⟩ (.int .i64 t)).heap[k]? = w.heap[k]? := fun k T hk hT => other_blk (hk.ne h.kn hT)
  refine ⟨by rw [ho b 67 h.kind (by decide)]; exact h.blk, own_same h.own fun k hk => ho k 55 (own_kind h.own hk) (by decide), by rw [ho gv 4 h.kv (by decide)]; exact h.vo, ?_, by rw [other_blk (fun e => h.nm e.symm)]; exact h.mo, h.nm, h.vN, by simpa using h.nN, h.mN⟩
  have := set_blk h.no j (.int .i64 t)
  simpa [ints, List.map_set] using this
theorem QB.putMtch (h : QB w b r A cap gv gn gm) (j : Nat) (t : Int) : QB (w.setCell ⟨gm, j, none⟩ (.int .i64 t)) b { r with mtch := r.mtch.set j t } A cap gv gn gm := by
  have ho : ∀ k T, Kind w k T → T ≠ 3 → (w.setCell ⟨gm, j, none⟩ (.int .i64 t)).heap[k]? = w.heap[k]? := fun k T hk hT => other_blk (hk.ne h.km hT)
  refine ⟨by rw [ho b 67 h.kind (by decide)]; exact h.blk, own_same h.own fun k hk => ho k 55 (own_kind h.own hk) (by decide), by rw [ho gv 4 h.kv (by decide)]; exact h.vo, by rw [other_blk h.nm]; exact h.no, ?_, h.nm, h.vN, h.nN, by simpa using h.mN⟩
  have := set_blk h.mo j (.int .i64 t)
  simpa [ints, List.map_set] using this

/-- The reference's replica, with what holds of it. -/
structure QOk (w : World) (b : Nat) (r : Rep) (A : Option Addr) (cap gv gn gm : Nat) : Prop extends QB w b r A cap gv gn gm where
  wf : M.WF r
theorem QOk.fr {S : Nat → Prop} {w' : World} (h : QOk w b r A cap gv gn gm) (hf : Fr S w w') (hS : ∀ k, QS b A gv gn gm k → ¬ S k) : QOk w' b r A cap gv gn gm := ⟨h.toQB.fr hf hS, h.wf⟩
theorem QOk.below {B : Nat} {w' : World} (h : QOk w b r A cap gv gn gm) (hb : Below B w w') (hB : w.heap.size ≤ B) : QOk w' b r A cap gv gn gm := ⟨h.toQB.below hb hB, h.wf⟩
theorem QOk.drew (h : QOk w b r A cap gv gn gm) : QOk w.drew b r A cap gv gn gm := ⟨h.toQB.drew, h.wf⟩
theorem QOk.drewN (h : QOk w b r A cap gv gn gm) (n : Nat) : QOk (w.drewN n) b r A cap gv gn gm := ⟨h.toQB.drewN n, h.wf⟩
theorem QOk.alloc (h : QOk w b r A cap gv gn gm) (o : Obj) : QOk (w.alloc o) b r A cap gv gn gm := ⟨h.toQB.alloc o, h.wf⟩
theorem QOk.far (h : QOk w b r A cap gv gn gm) {a : Addr} (hb : ¬ QS b A gv gn gm a.block) (v : Value) : QOk (w.setCell a v) b r A cap gv gn gm := ⟨h.toQB.far hb v, h.wf⟩

theorem qterm_calls (h : QOk w b r A cap gv gn gm) (n : Int) (h0 : 0 ≤ n) (hn : n ≤ r.log.length) :
    Calls Try.prog 53 #[.pointer (some ⟨b, 0, none⟩), .int .i64 n] w fun e w' => e = .returned (.int .i64 (M.tm r.log n)) ∧ w = w' := by
  obtain ⟨_, _, _, c3, _⟩ := h.cells
  obtain ⟨n, rfl⟩ := Int.eq_ofNat_of_zero_le h0
  have hb := h.lt
  by_cases hz : n = 0
  · subst hz
    go_enter Try.func53, Try.ntmps53
    go_wp2
    go_ret
    exact ⟨rfl, rfl⟩
  · have h1 : decide ((n : Int) < 1) = false := by simp; omega
    have h2 : decide ((r.log.length : Int) < (n : Int)) = false := by simp; omega
    have hlen := h.wf.len
    have hpos : n - 1 < r.log.length := by omega
    have HL := Lib.hid hlen
    cases A with
    | none => have := (own_nil h.own rfl).1; omega
    | some ad =>
      obtain ⟨g, off, sp⟩ := ad
      obtain ⟨rfl, rfl, _, hg, hc⟩ := own_cell h.own rfl
      have g0 := hc _ _ (recsCells_at r.log (n - 1) hpos).1
      have HT := Lib.hid (tm_at (l := r.log) (n := n) (by omega) (by omega))
      clear hc
      go_enter Try.func53, Try.ntmps53
      go_wp2
      go_ret
      exact ⟨reti HT.out.symm, rfl⟩

theorem qmessage_calls (h : QOk w b r A cap gv gn gm) (k t : Int) :
    Calls Try.prog 52 #[.pointer (some ⟨b, 0, none⟩), .int .i64 k, .int .i64 t] w fun e w' => e = .returned (msgVal (M.message r k t) (.slice none 0 0)) ∧ Below w.heap.size w w' := by
  obtain ⟨c0, c1, _⟩ := h.cells
  have hb := h.lt
  go_enter Try.func52, Try.ntmps52
  go_wp2
  go_region
  all_goals go_wp2
  refine bodyPost_ret (v := .agg #[.int .i64 k, .int .i64 r.id, .int .i64 t, .int .i64 r.hard.term, .int .i64 0, .int .i64 0, .int .i64 0, .bool false, .slice none 0 0]) (by simp [results, Try.results52, go_sem]) rfl ⟨rfl, ((Below.refl _ _).alloc (Nat.le_refl _) _).drew⟩
end

set_option maxHeartbeats 400000 in
theorem qsound_some (b off cap : Nat) (xs : List Rec) (least most : Int) (w : World) (hb : b < w.heap.size) (hn : xs.length ≤ 9223372036854775807)
    (h : ∀ j u, (recsCells xs)[j]? = some u → w.cell? ⟨b, off + j, none⟩ = some u) :
    Calls Try.prog 40 #[.slice (some ⟨b, off, none⟩) xs.length cap, .int .i64 least, .int .i64 most] w fun e w' => e = .returned (.bool (M.sound xs least most)) ∧ Below w.heap.size w w' := by
  have H := Lib.hid h
  clear h
  go_enter Try.func40, Try.ntmps40
  go_wp2
  go_loopw [1, 7] (fun l i wr => ∃ (k : Nat) (t : Int), k ≤ xs.length ∧ i = .int .i64 k ∧ l = .int .i64 t ∧ M.sound (xs.drop k) t most = M.sound xs least most ∧ Below w.heap.size w wr) (fun _ i _ => xs.length - (intOf i).toNat)
  case atStart => exact ⟨0, _, Nat.zero_le _, rfl, rfl, rfl, Below.refl _ _⟩
  case round =>
    obtain ⟨k, t, hk, rfl, rfl, hs, hb1⟩ := hrel
    have hbw : b < wr.heap.size := Nat.lt_of_lt_of_le hb hb1.size
    by_cases hlt : k < xs.length
    · obtain ⟨g0, g1⟩ := recs_get H.out k hlt
      have c0 := (hb1.cell (p := ⟨b, off + k * 2, none⟩) hb).trans g0
      have c1 := (hb1.cell (p := ⟨b, off + k * 2 + 1, none⟩) hb).trans g1
      clear g0 g1
      have HS := Lib.hid hs
      clear hs
      go_wp2
      all_goals first
        | (go_ret; exact ⟨retb (by rw [← HS.out, sound_at hlt, if_pos (by omega)]), (by first | assumption | exact Below.refl _ _ | exact (hb1.alloc (Nat.le_trans (Nat.le_refl _) hb1.size) _))⟩)
        | (go_roundw
           case rel => exact ⟨k + 1, _, by omega, by go_num, rfl, by rw [← HS.out, sound_at hlt, if_neg (by omega)], (by first | assumption | exact Below.refl _ _ | exact (hb1.alloc (Nat.le_trans (Nat.le_refl _) hb1.size) _))⟩
           case measure => simp [intOf]; omega)
    · have HS := Lib.hid hs
      clear hs
      go_wp2
      go_ret
      exact ⟨retb (by rw [← HS.out, List.drop_of_length_le (by omega)]; rfl), (by first | assumption | exact Below.refl _ _ | exact (hb1.alloc (Nat.le_trans (Nat.le_refl _) hb1.size) _))⟩

theorem qsound_none (cap : Nat) (least most : Int) (w : World) (A : Option Addr) :
    Calls Try.prog 40 #[.slice A 0 cap, .int .i64 least, .int .i64 most] w fun e w' => e = .returned (.bool true) ∧ Below w.heap.size w w' := by
  go_enter Try.func40, Try.ntmps40
  go_wp2
  refine wp_loop_rounds 1 ?_
  rw [rounds_succ]
  go_wp2
  go_ret
  exact ⟨retb rfl, Below.refl _ _⟩

/-- The reference's sound, over any slice of entries. -/
theorem qsound_calls {ok : Nat → Prop} (v : Value) (xs : List Rec) (least most : Int) (w : World) (hs : Sl w ok 2 v xs.length (recsCells xs)) :
    Calls Try.prog 40 #[v, .int .i64 least, .int .i64 most] w fun e w' => e = .returned (.bool (M.sound xs least most)) ∧ Below w.heap.size w w' := by
  obtain ⟨_, hn, A, cap, rfl, _, _, h | ⟨b, off, rfl, _, hb, h⟩⟩ := hs
  · obtain rfl := List.eq_nil_of_length_eq_zero h
    exact qsound_none cap least most w A
  · exact qsound_some b off cap xs least most w hb hn h
end Go.Proofs.Ytodmihpmbecncaa
