/-
  The walk of replica.Propose: it computes what the model says.
-/
import Derived.Test.YtodmihpmbecncaaWkN
namespace Go.Proofs.Ytodmihpmbecncaa
open Go.RowKit

theorem results_ttc' {P : Program} {fn : Func} {p u v : Tmp} {ty : TypeId} (h : fn.results = #[.tmp u, .tmp v, .cell p ty]) (tmps : Array Value) (w : World) (g : Nat) (t : TypeId) (cs : Array Value) (fr : Nat × Nat) (d : TypeDesc)
    (hp : tmps.getD p undef = .pointer (some ⟨g, 0, none⟩)) (hg : w.heap[g]? = some (.cells cs t fr))
    (hu : P.underlying ty = some d) (hd : (match d with | .struct _ | .array _ _ => true | _ => false) = true) (hi : (P.info? ty).map (·.size) = some cs.size) :
    (results fn tmps).run P w = .ok (.tuple #[tmps.getD u undef, tmps.getD v undef, .agg cs]) w := by
  have hp' : tmps[p]?.getD undef = .pointer (some ⟨g, 0, none⟩) := by simpa using hp
  simp [results, h, hp', asAddr, run_loadVar_row w g t ty cs fr d hg hu hd hi]

section
variable {w : World} {b : Nat} {r : Rep} {A : Option Addr} {cap : Nat}

/-- What Propose leaves. -/
def AfterP (w : World) (b : Nat) (A : Option Addr) (r' : Rep) (n k : Int) (o : Out) (e : Ending) (w' : World) : Prop :=
  ∃ A' cap' rv sv, e = .returned (.tuple #[.int .i64 n, .int .i64 k, outVal o rv sv]) ∧ RepOk w' b r' A' cap' ∧ FreshRow w w' A A' o rv sv ∧ OutOk w' w.heap.size o rv sv ∧ Fr (RepS b A) w w'

set_option maxHeartbeats 800000 in
theorem propose_calls_no (h : RepOk w b r A cap) (data : ByteArray) (hdl : data.size ≤ 9223372036854775807) (hno : r.role ≠ 2 ∨ 2000 < data.size ∨ r.log.length = 4000) :
    Calls Try.prog 16 #[.pointer (some ⟨b, 0, none⟩), .string data] w (AfterP w b A (M.propose r data).1 (M.propose r data).2.1 (M.propose r data).2.2.1 (M.propose r data).2.2.2) := by
  have hb := h.lt
  obtain ⟨c0, c1, c2, c3, c4, _⟩ := h.cells
  have hlen := h.wf.len
  have HH := Lib.hid h
  have HE : Hid (∃ k, M.propose r data = (r, 0, k, M.noOut) ∧ (((r.role != 2) = true ∧ k = 24) ∨ ((r.role != 2) = false ∧ decide ((2000 : Int) < (data.size : Int)) = true ∧ k = 1) ∨ ((r.role != 2) = false ∧ decide ((2000 : Int) < (data.size : Int)) = false ∧ ((r.log.length : Int) == 4000) = true ∧ k = 6))) := by
    show ∃ k, _
    unfold M.propose
    by_cases h1 : r.role = 2
    · rw [if_neg (by simpa using h1)]
      by_cases h2 : 2000 < data.size
      · exact ⟨1, by rw [if_pos h2], .inr (.inl ⟨by simp [h1], by simp; omega, rfl⟩)⟩
      · rw [if_neg h2]
        have h3 : r.log.length = 4000 := by
          rcases hno with q | q | q
          · exact absurd h1 q
          · exact absurd q h2
          · exact q
        exact ⟨6, by rw [if_pos h3], .inr (.inr ⟨by simp [h1], by simp; omega, by simp; omega, rfl⟩)⟩
    · exact ⟨24, by rw [if_pos h1], .inl ⟨by simpa using h1, rfl⟩⟩
  obtain ⟨k, hE, hd⟩ := HE.out
  rw [hE]
  clear h hno HE hE
  rcases hd with ⟨d1, rfl⟩ | ⟨d1, d2, rfl⟩ | ⟨d1, d2, d3, rfl⟩
  all_goals
    go_enter Try.func16, Try.ntmps16
    go_upto_block 0 with fail
    refine wp_world (fun W => RepOk W b r A cap ∧ Fr (RepS b A) w W ∧ W.heap[w.heap.size]? = some zOut) ⟨HH.out.alloc _, (Fr.refl _ w).alloc _, heap_alloc_new w _⟩ ?_
    rintro W ⟨hR, hF, hZ⟩
    clear c0 c1 c2 c3 c4
    obtain ⟨c0, c1, c2, c3, c4, _⟩ := hR.cells
    have hbW := hR.lt
    have HR := Lib.hid hR
    have HF := Lib.hid hF
    have HZ := Lib.hid hZ
    clear hR hF hZ
    go_wp2_with (first | refine wpList_store_list rfl 45 (.tmp 6) (.tmp 14) rfl w.heap.size _ rfl rfl 45 _ HZ.out 6 size45 rfl rfl rfl ?_ | refine wpList_store_list rfl 45 (.tmp 6) (.tmp 19) rfl w.heap.size _ rfl rfl 45 _ HZ.out 6 size45 rfl rfl rfl ?_ | refine wpList_store_list rfl 45 (.tmp 6) (.tmp 27) rfl w.heap.size _ rfl rfl 45 _ HZ.out 6 size45 rfl rfl rfl ?_)
    refine bodyPost_ret (v := _) (results_ttc' rfl _ _ w.heap.size 45 _ (0, 0) _ rfl (setRow_heap _ _ _ _ _ _ HZ.out) Try.underlying45 rfl size45) rfl ?_
    obtain ⟨A', cap', rv, sv, k1, k2, k3, k4, k5⟩ := after_setRow (o := M.noOut) (rv := .slice none 0 0) (sv := .slice none 0 0) HR.out (.inl rfl) (OutOk.nil _ _) HF.out ⟨_, _, HZ.out⟩ (Nat.le_refl _) #[.bool false, .int .i64 0, .int .i64 0, .int .i64 0, .slice none 0 0, .slice none 0 0]
    cases k1
    exact ⟨A', cap', _, _, rfl, k2, k3, k4, k5⟩

theorem sl_one_rec (w : World) (x : Rec) : Sl (w.alloc (.cells (recCells x).toArray 55)) (w.heap.size ≤ ·) 2 (.slice (some ⟨w.heap.size, 0, none⟩) 1 1) 1 (recsCells [x]) :=
  ⟨by rw [recsCells_length]; rfl, by omega, _, _, rfl, by omega, by omega, Or.inr ⟨_, _, rfl, Nat.le_refl _, by simp, fun j u h => by rw [Nat.zero_add, World.cell?_alloc_new]; simpa [recsCells] using h⟩⟩
theorem own_one_rec (w : World) (x : Rec) : (w.alloc (.cells (recCells x).toArray 55)).ownsRow w.heap.size 55 2 (.slice (some ⟨w.heap.size, 0, none⟩) 1 1) 1 (recsCells [x]) :=
  ⟨by rw [recsCells_length]; rfl, .inr ⟨w.heap.size, 1, _, rfl, Nat.le_refl _, heap_alloc_new w _, Nat.le_refl _, by simp [maxLen], by simp [recCells], by simp [recsCells, recCells]⟩⟩

theorem M.WF.push {r : Rep} (h : M.WF r) (_h2 : r.role = 2) (hl : r.log.length < 4000) (data : ByteArray) (hd : data.size ≤ 2000) (ht : 1 ≤ r.hard.term) : M.WF { r with log := r.log ++ [⟨r.hard.term, data⟩] } :=
  { h with
    len := by show (r.log ++ _).length ≤ 4000; rw [List.length_append]; simp; omega
    logOk := by
      show M.sound (r.log ++ _) 1 r.hard.term = true
      rw [M.sound_append, h.logOk, Bool.true_and]
      have hT : M.lastT 1 r.log ≤ r.hard.term := by
        have := M.lastT_take r.log 1 r.hard.term r.log.length (Nat.le_refl _) h.logOk
        rw [List.take_length] at this
        rw [this]
        split
        · exact ht
        · exact (M.sound_term r.log 1 r.hard.term r.log.length (by omega) (Nat.le_refl _) h.logOk).2
      unfold M.sound
      rw [if_neg (by rintro (q | q | q)
                     · exact absurd q (by show ¬ (r.hard.term < _); omega)
                     · exact absurd q (by show ¬ (r.hard.term < r.hard.term); omega)
                     · exact absurd q (by show ¬ (2000 < data.size); omega))]
      rfl
    commitN := by have := h.commitN; show r.commit ≤ ((r.log ++ _).length : Int); rw [List.length_append]; omega
    nexts := fun e j hj => by have := h.nexts e j hj; refine ⟨this.1, ?_⟩; show r.next.getD j 0 ≤ ((r.log ++ _).length : Int) + 1; rw [List.length_append]; omega
    mtchs := fun e j hj => by have := h.mtchs e j hj; refine ⟨this.1, ?_⟩; show r.mtch.getD j 0 ≤ ((r.log ++ _).length : Int); rw [List.length_append]; omega }

theorem RepB.laidLog {lv : Value} (hb : w.heap[b]? = some (.cells (repCells r lv).toArray 76)) (hv : r.votes.length = 3) (hn : r.next.length = 3) (hm : r.mtch.length = 3) (l : List Rec) (A' : Option Addr) (cap' : Nat) (ho : w.ownsRow 0 55 2 (.slice A' l.length cap') l.length (recsCells l)) :
    RepB (w.setCell ⟨b, 3, none⟩ (.slice A' l.length cap')) b { r with log := l } A' cap' := by
  have hne : ∀ ad, A' = some ad → ad.block ≠ b := fun ad e => (own_kind ho (k := ad.block) (by rw [e]; rfl)).ne ⟨_, _, hb⟩ (by decide)
  refine ⟨set_blk hb 3 _, ?_, hne, hv, hn, hm⟩
  refine own_same ho fun k hk => other_blk ?_
  cases A' with
  | none => cases hk
  | some ad => cases hk; exact hne ad rfl

theorem own_grow {w0 w' : World} {e size n n' : Nat} {xs xs' : List Value} {A A' : Option Addr} {c c' : Nat} (h : w0.ownsRow 0 e size (.slice A n c) n xs) (h' : w'.ownsRow 0 e size (.slice A' n' c') n' xs') (hat : (Value.slice A' n' c').ownBlock = (Value.slice A n c).ownBlock ∨ (Value.slice A' n' c').ownBlock = some w0.heap.size) :
    A' = A ∨ ∀ ad, A' = some ad → w0.heap.size ≤ ad.block := by
  rcases hat with q | q
  · left
    cases A with
    | none => cases A' with
      | none => rfl
      | some ad => cases q
    | some ad => cases A' with
      | none => cases q
      | some ad' =>
        obtain ⟨g, o, sp⟩ := ad
        obtain ⟨g', o', sp'⟩ := ad'
        obtain ⟨rfl, rfl, _⟩ := own_cell h rfl
        obtain ⟨rfl, rfl, _⟩ := own_cell h' rfl
        have : g' = g := Option.some.inj q
        rw [this]
  · right
    rintro ad rfl
    have : ad.block = w0.heap.size := Option.some.inj q
    omega

/-- Block B holds six cells. -/
def P6 (w : World) (B : Nat) : Prop := ∃ cs : Array Value, w.heap[B]? = some (.cells cs 45) ∧ cs.size = 6
theorem P6.below {w w' : World} {B k : Nat} (h : P6 w B) (hb : Below k w w') (hk : w.heap.size ≤ k) : P6 w' B := by
  obtain ⟨cs, h1, h2⟩ := h
  exact ⟨cs, (hb.block B (Nat.lt_of_lt_of_le (lt_blk h1) hk)).trans h1, h2⟩
theorem P6.setCell {w : World} {B : Nat} (h : P6 w B) (i : Nat) (v : Value) : P6 (w.setCell ⟨B, i, none⟩ v) B := by
  obtain ⟨cs, h1, h2⟩ := h
  refine ⟨(cs.toList.set i v).toArray, ?_, by simpa using h2⟩
  exact set_blk (cs := cs.toList) (by simpa using h1) i v
theorem P6.free {w : World} {B : Nat} (h : P6 w B) (i : Nat) : w.frozen? ⟨B, i, none⟩ = false := by
  obtain ⟨cs, h1, h2⟩ := h
  exact free_blk (cs := cs.toList) (by simpa using h1) i
theorem P6.cell {w : World} {B : Nat} (h : P6 w B) (i : Nat) (hi : i < 6) : (w.cell? ⟨B, i, none⟩).isSome = true := by
  obtain ⟨cs, h1, h2⟩ := h
  rw [cell_blk (cs := cs.toList) (by simpa using h1) i]
  simp [h2, hi]
theorem P6.laid {w : World} {B : Nat} (h : P6 w B) (a b c d e f : Value) :
    ((((((w.setCell ⟨B, 0, none⟩ a).setCell ⟨B, 1, none⟩ b).setCell ⟨B, 2, none⟩ c).setCell ⟨B, 3, none⟩ d).setCell ⟨B, 4, none⟩ e).setCell ⟨B, 5, none⟩ f).heap[B]? = some (.cells #[a, b, c, d, e, f] 45) := by
  obtain ⟨cs, h1, h2⟩ := h
  obtain ⟨l, rfl⟩ : ∃ l : List Value, cs = l.toArray := ⟨cs.toList, by simp⟩
  have h6 : l.length = 6 := by simpa using h2
  match l, h6 with
  | [_, _, _, _, _, _], _ => exact set_blk (set_blk (set_blk (set_blk (set_blk (set_blk h1 0 a) 1 b) 2 c) 3 d) 4 e) 5 f

end
end Go.Proofs.Ytodmihpmbecncaa
