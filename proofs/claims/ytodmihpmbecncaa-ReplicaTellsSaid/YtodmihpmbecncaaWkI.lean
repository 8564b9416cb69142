/-
  The walk of replica.advance: it computes what the model says.
-/
import Derived.Test.YtodmihpmbecncaaWkH
namespace Go.Proofs.Ytodmihpmbecncaa
open Go.RowKit

section
variable {w : World} {b : Nat} {r : Rep} {A : Option Addr} {cap : Nat}

def mostOf (r : Rep) (l : List Int) : Int := l.foldl (fun t i => max t (r.mtch.getD i.toNat 0)) 0
theorem mostOf_snoc (r : Rep) (l : List Int) (j : Nat) : mostOf r (l ++ [(j : Int)]) = max (mostOf r l) (r.mtch.getD j 0) := by
  unfold mostOf; rw [List.foldl_append]; rfl
theorem mostOf_bd (r : Rep) (hm : ∀ j : Nat, j < 3 → 0 ≤ r.mtch.getD j 0 ∧ r.mtch.getD j 0 ≤ r.log.length) : ∀ (k : Nat), k ≤ 2 → 0 ≤ mostOf r ((M.others r.id).take k) ∧ mostOf r ((M.others r.id).take k) ≤ r.log.length
  | 0, _ => ⟨Int.le_refl _, by show (0 : Int) ≤ _; omega⟩
  | k + 1, hk => by
    have hk' : k < (M.others r.id).length := by rw [others_len]; omega
    obtain ⟨j, hj, hj3⟩ := others_lt r.id k
    rw [List.getD_eq_getElem?_getD, List.getElem?_eq_getElem hk'] at hj
    simp only [Option.getD_some] at hj
    rw [List.take_succ_eq_append_getElem hk', hj, mostOf_snoc]
    have h1 := mostOf_bd r hm k (by omega)
    have h2 := hm j hj3
    omega
theorem advance_eq (r : Rep) : M.advance r = if r.commit < mostOf r (M.others r.id) ∧ M.tm r.log (mostOf r (M.others r.id)) = r.hard.term then { r with commit := mostOf r (M.others r.id) } else r := rfl

theorem M.WF.commit {r : Rep} (h : M.WF r) {c : Int} (h0 : 0 ≤ c) (h1 : c ≤ r.log.length) : M.WF { r with commit := c } := { h with commit0 := h0, commitN := h1 }

theorem RepOk.drewN (h : RepOk w b r A cap) (k : Nat) : RepOk (w.drewN k) b r A cap := h.below (below_drewN (Below.refl _ _) _) (Nat.le_refl _)
theorem Fr.drewNs {S : Nat → Prop} {a w : World} (h : Fr S a w) (n : Nat) : Fr S a (w.drewN n) := ⟨h.os, h.tape, h.output, h.size, h.block⟩
theorem term_q (h : RepOk w b r A cap) (n : Int) (h0 : 0 ≤ n) (hn : n ≤ r.log.length) (k : Nat) :
    Calls Try.prog 36 #[.pointer (some ⟨b, 0, none⟩), .int .i64 n] (w.drewN k) fun e w' => e = .returned (.int .i64 (M.tm r.log n)) ∧ w' = w.drewN k :=
  (term_calls (h.drewN k) n h0 hn).mono fun _ _ ⟨h1, h2⟩ => ⟨h1, h2.symm⟩

set_option maxHeartbeats 800000 in
theorem advance_calls (h : RepOk w b r A cap) (hm : ∀ j : Nat, j < 3 → 0 ≤ r.mtch.getD j 0 ∧ r.mtch.getD j 0 ≤ r.log.length) :
    Calls Try.prog 59 #[.pointer (some ⟨b, 0, none⟩)] w fun e w' => e = .returned (.tuple #[]) ∧ RepOk w' b (M.advance r) A cap ∧ Fr (RepS b A) w w' := by
  have hb := h.lt
  obtain ⟨id, hid⟩ := Int.eq_ofNat_of_zero_le h.wf.id0
  have hid3 : id < 3 := by have := h.wf.id2; omega
  have hlen := h.wf.len
  have c0 := h.cells.1
  rw [hid] at c0
  have HI := Lib.hid hid
  have HM := Lib.hid hm
  have HH := Lib.hid h
  clear hid hm h
  go_enter Try.func59, Try.ntmps59
  go_wp2_with fail
  refine (others_calls id b w hid3 hb c0).mono ?_
  rintro e w1 ⟨g, rfl, hb1, hg0, hg1, hKg, hc⟩
  have HC := Lib.hid hc
  have HB1 := Lib.hid hb1
  have h1 := HH.out.below hb1 (Nat.le_refl _)
  have H1 := Lib.hid h1
  clear hc hb1 c0
  go_wp2_with fail
  go_loop [2, 8] (fun t i => ∃ k : Nat, k ≤ 2 ∧ i = .int .i64 k ∧ t = .int .i64 (mostOf r ((M.others id).take k))) (fun _ i => 2 - (intOf i).toNat)
  case atStart => exact ⟨0, by omega, rfl, rfl⟩
  case round =>
    obtain ⟨k, hk, rfl, rfl⟩ := hrel
    have hbd := mostOf_bd r HM.out k hk
    rw [HI.out] at hbd
    by_cases hlt : k < 2
    · have ck := HC.out k hlt
      obtain ⟨j, hj, hj3⟩ := others_lt id k
      rw [hj] at ck
      have HJ := Lib.hid hj
      have hjI : (j : Int) < 3 := by omega
      have mj := h1.mtch j hj3
      have hsn : mostOf r ((M.others (id : Int)).take (k + 1)) = max (mostOf r ((M.others (id : Int)).take k)) (r.mtch.getD j 0) := by
        have hk' : k < (M.others (id : Int)).length := by rw [others_len]; omega
        rw [List.getD_eq_getElem?_getD, List.getElem?_eq_getElem hk'] at hj
        simp only [Option.getD_some] at hj
        rw [List.take_succ_eq_append_getElem hk', hj, mostOf_snoc]
      generalize mostOf r ((M.others (id : Int)).take k) = t at *
      generalize r.mtch.getD j 0 = x at *
      have HS := Lib.hid hsn
      clear hj hsn
      by_cases hx : t < x
      all_goals
        go_wp2
        go_round
        case rel => exact ⟨k + 1, by omega, by go_num, by rw [HS.out]; go_num⟩
        case measure => simp [intOf]; omega
    · obtain rfl : k = 2 := by omega
      have e2 : (M.others (id : Int)).take 2 = M.others r.id := by rw [HI.out, List.take_of_length_le (by rw [others_len]; omega)]
      rw [e2] at hbd ⊢
      have hae := advance_eq r
      generalize mostOf r (M.others r.id) = t at *
      have HAE := Lib.hid hae
      clear hae e2
      obtain ⟨_, c1, _, _, _, c5⟩ := h1.cells
      have f5 := h1.free 5
      have hbw1 := h1.lt
      go_upto_region 6 with fail
      cases hgt : decide (r.commit < t)
      · go_quiet (fail)
        go_wp2
        go_end0
        refine ⟨rfl, ?_, (Fr.of_below (S := RepS b A) HB1.out).drewNs _⟩
        rw [HAE.out, if_neg (by simp only [decide_eq_false_iff_not] at hgt; exact fun q => hgt q.1)]
        exact H1.out.drewN _
      · cases htm : (M.tm r.log t == r.hard.term)
        · go_quiet ((go_at_call 36; exact Calls.quiet_of_same (term_q h1 t hbd.1 hbd.2 _)))
          go_wp2
          go_end0
          refine ⟨rfl, ?_, (Fr.of_below (S := RepS b A) HB1.out).drewNs _⟩
          rw [HAE.out, if_neg (by simp only [beq_eq_false_iff_ne] at htm; exact fun q => htm q.2)]
          exact H1.out.drewN _
        · go_quiet ((go_at_call 36; exact Calls.quiet_of_same (term_q h1 t hbd.1 hbd.2 _)))
          go_wp2
          go_end0
          have hgt' : r.commit < t := by simpa using hgt
          have htm' : M.tm r.log t = r.hard.term := by simpa using htm
          have hB := (H1.out.drewN 1)
          refine ⟨rfl, ?_, ((Fr.of_below (S := RepS b A) HB1.out).drewNs _).setCell (.inl (.inl rfl)) _⟩
          rw [HAE.out, if_pos ⟨hgt', htm'⟩]
          exact ⟨(H1.out.drewN _).toRepB.putCommit t, H1.out.wf.commit hbd.1 hbd.2⟩
end
end Go.Proofs.Ytodmihpmbecncaa
