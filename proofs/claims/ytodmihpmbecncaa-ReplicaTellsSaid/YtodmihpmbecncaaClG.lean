/-
  Walk of the cluster's step: one operation. Condition: what is stored is what the replicas have.
-/
import Derived.Test.YtodmihpmbecncaaClF
namespace Go.Proofs.Ytodmihpmbecncaa
open Go.RowKit

theorem and_mask (n : Int) (k : Nat) (hk : k < 63) : bits .and .i64 n ((2 ^ k - 1 : Nat) : Int) = n % ((2 ^ k : Nat) : Int) := by
  have hm : (BitVec.ofInt 64 ((2 ^ k - 1 : Nat) : Int)).toNat = 2 ^ k - 1 := by
    rw [BitVec.ofInt_natCast, BitVec.toNat_ofNat]
    have : 2 ^ k < 2 ^ 63 := Nat.pow_lt_pow_right (by omega) hk
    exact Nat.mod_eq_of_lt (by omega)
  have key : (BitVec.ofInt 64 n &&& BitVec.ofInt 64 ((2 ^ k - 1 : Nat) : Int)).toNat = (n % ((2 ^ 64 : Nat) : Int)).toNat % 2 ^ k := by
    rw [BitVec.toNat_and, BitVec.toNat_ofInt, hm, Nat.and_two_pow_sub_one_eq_mod]
  show IntKind.i64.wrap ((BitVec.ofInt 64 n &&& BitVec.ofInt 64 ((2 ^ k - 1 : Nat) : Int)).toNat : Int) = _
  rw [key]
  have h1 : 0 < 2 ^ k := Nat.pow_pos (by omega)
  have h2 : 2 ^ k < 2 ^ 63 := Nat.pow_lt_pow_right (by omega) hk
  have h3 : (n % ((2 ^ 64 : Nat) : Int)).toNat % 2 ^ k < 2 ^ k := Nat.mod_lt _ h1
  rw [IntWalk.i64_in _ (by omega)]
  have h4 : 0 ≤ n % ((2 ^ 64 : Nat) : Int) := Int.emod_nonneg _ (by decide)
  rw [Int.natCast_emod, Int.toNat_of_nonneg h4]
  exact Int.emod_emod_of_dvd n (by
    refine Int.natCast_dvd_natCast.2 (Nat.pow_dvd_pow 2 (by omega)))
theorem and15 (n : Int) : bits .and .i64 n 15 = n % 16 := and_mask n 4 (by decide)
theorem and1 (n : Int) : bits .and .i64 n 1 = n % 2 := and_mask n 1 (by decide)

section
variable {w W : World} {cb : Nat} {x x1 : M.Cl} {L L1 : Lay}

set_option linter.unusedSimpArgs false in
set_option maxRecDepth 10000 in
set_option maxHeartbeats 3200000 in
theorem step_calls (h : ClOk w cb x L) {g : M.Gh} (P : M.PInv x g) (o : M.Op) (hd : o.data.size ≤ 9223372036854775807) :
    Calls Try.prog 11 #[ptrV cb, .agg #[.int .i64 o.what, .int .i64 o.who, .int .i64 o.n, .string o.data]] w (ClPost w cb L (M.step x o)) := by
  have HH := Lib.hid h
  have HP := Lib.hid P
  unfold ptrV
  clear h P
  have hpt := pick_bd o.who 3 (by omega)
  obtain ⟨i, hi⟩ := Int.eq_ofNat_of_zero_le hpt.1
  have hi3 : i < 3 := by omega
  have hi3I : (i : Int) < 3 := by omega
  have HI := Lib.hid hi
  clear hi hpt
  go_enter Try.func11, Try.ntmps11
  go_wp2_with fail
  refine (pick_calls o.who 3 _ (by decide) (by decide)).mono ?_
  rintro e w' ⟨rfl, rfl⟩
  rw [HI.out]
  go_upto_block 0 with fail
  rw [and15]
  have hd0 : 0 ≤ o.what % 16 := Int.emod_nonneg _ (by decide)
  have hd1 : o.what % 16 < 16 := Int.emod_lt_of_pos _ (by decide)
  generalize hdd : o.what % 16 = d at hd0 hd1
  have hdd2 : M.step x o = (if d = 8 then
    if 0 < x.sent.length then { x with sent := x.sent.take (M.pick o.n x.sent.length).toNat ++ x.sent.drop ((M.pick o.n x.sent.length).toNat + 1) } else x
  else if d = 9 then M.arrive x o.n true
  else if d = 10 ∨ d = 11 then M.done { x with r := x.r.set i (M.tick (M.Rf x i)).1 } i (M.tick (M.Rf x i)).2
  else if d = 12 ∨ d = 13 then M.done { x with r := x.r.set i (M.propose (M.Rf x i) o.data).1 } i (M.propose (M.Rf x i) o.data).2.2.2
  else if d = 14 then M.start x i
  else if d = 15 then { x with s := x.s.set i { x.s.getD i M.zSt with stop := 1 + o.n % 2 } }
  else M.arrive x o.n false) := by
    unfold M.step
    rw [HI.out, hdd]
    rfl
  have HD := Lib.hid hdd2
  clear hdd2 hdd
  refine wp_world (fun W => ClOk W cb x L ∧ Below w.heap.size w W ∧ W.heap[w.heap.size]? = some (.cells [.int .i64 o.what, .int .i64 o.who, .int .i64 o.n, .string o.data].toArray 30)) ⟨HH.out.alloc _, (Below.refl _ _).alloc (Nat.le_refl _) _, heap_alloc_new w _⟩ ?_
  rintro W ⟨hW, hBW, hBX⟩
  obtain ⟨c0, c1, c2⟩ := hW.cells
  have b2 := cell_blk hBX 2
  have b3 := cell_blk hBX 3
  simp only [List.getElem?_cons_succ, List.getElem?_cons_zero] at b2 b3
  have HW := Lib.hid hW
  have HBW := Lib.hid hBW
  have HBX := Lib.hid hBX
  have HF : Hid (Fr (ClS cb L) w W) := Fr.of_below hBW
  have hcl := hW.kind.lt
  have hm300 := hW.mN
  clear hW hBW hBX
  have hfin : ∀ {x' : M.Cl} {e : Ending} {w2 : World}, M.step x o = x' → ClPost W cb L x' e w2 → ClPost w cb L (M.step x o) e w2 := fun hx hp => by
    rw [hx]; exact ClPost.of hp (fun _ _ h => h) HF.out
  have HFIN : Hid (∀ {x' : M.Cl} {e : Ending} {w2 : World}, M.step x o = x' → ClPost W cb L x' e w2 → ClPost w cb L (M.step x o) e w2) := hfin
  clear hfin
  by_cases e8 : d = 8
  · have q8 : (d == 8) = true := by simp [e8]
    have hD := HD.out
    rw [if_pos e8] at hD
    have HD2 := Lib.hid hD
    clear hD HD e8
    by_cases h0 : x.sent.length = 0
    · have h0I : (x.sent.length : Int) ≤ 0 := by omega
      have hD := HD2.out
      rw [if_neg (by omega)] at hD
      have HD3 := Lib.hid hD
      clear hD HD2 h0
      go_wp2_with fail
      go_ret
      exact HFIN.out HD3.out ⟨L, rfl, HW.out, fun _ _ h => h, Fr.refl _ _⟩
    · have h0I : (0 : Int) < (x.sent.length : Int) := by omega
      have hD := HD2.out
      rw [if_pos (by omega)] at hD
      have hpk := pick_bd o.n x.sent.length (by omega)
      obtain ⟨k, hk⟩ := Int.eq_ofNat_of_zero_le hpk.1
      rw [hk, Int.toNat_natCast] at hD
      have hkl : k < x.sent.length := by omega
      have HD3 := Lib.hid hD
      have HK := Lib.hid hk
      obtain ⟨ps, e1, e2, e3⟩ := HW.out.sent
      have hpl : ps.length = x.sent.length := by rw [e1, List.length_map]
      rw [← hpl] at e2 hkl hm300 c2 h0I
      obtain ⟨gm, hgm⟩ : ∃ gm, L.mA = some ⟨gm, 0, none⟩ := by
        cases hA : L.mA with
        | none => rw [hA] at e2; have := own_nil e2 rfl; omega
        | some ad =>
          rw [hA] at e2
          obtain ⟨g', off, sp⟩ := ad
          obtain ⟨rfl, rfl, _⟩ := own_cell e2 rfl
          exact ⟨g', rfl⟩
      rw [hgm] at e2 c2
      have HGM := Lib.hid hgm
      have HE1 := Lib.hid e1
      have HE2 := Lib.hid e2
      have HE3 := Lib.hid e3
      have HPL := Lib.hid hpl
      have hlen1 : (1 : Int) ≤ (ps.length : Int) := by omega
      have hkI : (k : Int) < (ps.length : Int) := by omega
      clear hD HD2 hk hpk h0 e1 e2 e3 hpl hgm c0 c1 b3
      go_upto_region 5 with fail
      go_region_held3 (fun w' => w'.cell? ⟨cb, 2, none⟩ = some (.slice (some ⟨gm, 0, none⟩) ps.length L.mc) ∧ w'.cell? ⟨w.heap.size, 2, none⟩ = some (.int .i64 o.n)) (go_keep)
        ((first | (go_at_call 30; refine (pick_calls o.n (ps.length : Int) _ hlen1 (by omega)).mono ?_; rintro e w' ⟨rfl, rfl⟩)))
      have hpe : M.pick o.n (ps.length : Int) = k := by rw [HPL.out]; exact HK.out
      rw [hpe]
      clear hpe
      go_upto_region 6 with fail
      refine wp_world (fun V => ClOk V cb x L ∧ Below W.heap.size W V) ⟨HW.out.drew, (Below.refl _ _).drew⟩ ?_
      clear c2 b2 hcl
      rintro V ⟨hV, hBV⟩
      have hcl := hV.kind.lt
      have c2 := hV.cells.2.2
      rw [HGM.out, ← HPL.out] at c2
      have HCF := Lib.hid (free_blk hV.blk 2)
      have HV := Lib.hid hV
      have HBV := Lib.hid hBV
      clear hV hBV
      have hown : V.ownsRow 0 37 9 (.slice (some ⟨gm, 0, none⟩) ps.length L.mc) ps.length (msgsCells ps) := own_below HE2.out HBV.out (Nat.le_refl _)
      obtain ⟨t1, ht1, hrun1⟩ := msgs_take_slice (Sl.of_own hown) (k : Int) (by omega) (by omega)
      obtain ⟨t2, ht2, hrun2⟩ := msgs_drop_slice (Sl.of_own hown) ((k : Int) + 1) (by omega) (by omega)
      rw [Int.toNat_natCast] at ht1
      rw [show ((k : Int) + 1).toNat = k + 1 from by omega] at ht2
      have hwr : IntKind.i64.wrap ((k : Int) + 1) = (k : Int) + 1 := IntWalk.i64_in _ (by omega)
      have hpr : ∀ p ∈ ps.take k ++ ps.drop (k + 1), V.ownsRow 0 55 2 p.2 p.1.recs.length (recsCells p.1.recs) ∧ ∀ q, p.2.ownBlock = some q → ¬ rowsX L q := fun p hp =>
        ⟨own_below (HE3.out p (M.mem_cut _ _ _ hp)).1 HBV.out (Nat.le_refl _), (HE3.out p (M.mem_cut _ _ _ hp)).2⟩
      have hone : ∀ l : List (Msg × Value), (∀ p ∈ l, p ∈ ps) → ∀ u ∈ msgsCells l, u.oneCell' = true := fun l hl => msgsCells_one l fun p hp => by
        obtain ⟨a, b, h⟩ := own_form (HE3.out p (hl p hp)).1
        rw [h]; rfl
      have ho1 := hone (ps.take k) (fun p hp => List.mem_of_mem_take hp)
      have ho2 := hone (ps.drop (k + 1)) (fun p hp => List.mem_of_mem_drop hp)
      have hl1 : (ps.take k).length ≤ 300 := by rw [List.length_take]; omega
      have hl2 : (ps.drop (k + 1)).length ≤ 300 := by rw [List.length_drop]; omega
      have hmap : (ps.take k ++ ps.drop (k + 1)).map Prod.fst = x.sent.take k ++ x.sent.drop (k + 1) := by rw [HE1.out]; simp
      have hl3 : (ps.take k ++ ps.drop (k + 1)).length ≤ 300 := by rw [List.length_append, List.length_take, List.length_drop]; omega
      have HPR := Lib.hid hpr
      have HMAP := Lib.hid hmap
      have HO1 := Lib.hid ho1
      have HO2 := Lib.hid ho2
      have HL3 := Lib.hid hl3
      clear hpr hone hmap ho1 ho2 hl3 hown
      generalize ps.take k = l1 at *
      generalize ps.drop (k + 1) = l2 at *
      have HT1 := Lib.hid ht1
      have HT2 := Lib.hid ht2
      have hS : ∀ w', Below V.heap.size V w' → (Below V.heap.size V w' ∧ w'.cell? ⟨cb, 2, none⟩ = some (.slice (some ⟨gm, 0, none⟩) ps.length L.mc)) := fun w' hb => ⟨hb, (hb.cell (p := ⟨cb, 2, none⟩) hcl).trans c2⟩
      have HSS := Lib.hid hS
      clear ht1 ht2 hS c2
      refine wp_region_noPanic ?_
      refine wp_region_last (S := fun w' => Below V.heap.size V w' ∧ w'.cell? ⟨cb, 2, none⟩ = some (.slice (some ⟨gm, 0, none⟩) ps.length L.mc)) (by kernel_rfl) (by kernel_rfl) (last_split _ (by kernel_rfl)) (HSS.out _ (Below.refl _ _).drew) (fun hHeld => ?_)
      simp only [List.pop_toArray, List.dropLast_cons_cons, List.dropLast_singleton, List.back?_toArray, List.getLast?_cons_cons, List.getLast?_singleton, Option.getD_some]
      refine wpAnyH_take (i := 0) (v := ?_) rfl (by kernel_rfl) (by kernel_rfl) (by kernel_rfl) (fun _ _ _ h => h) (Or.inl ⟨by rfl, ?_⟩) (by assumption) ?_
      rotate_left 1
      · intro w' hSw
        (try dsimp only at hSw)
        go_simp
        (try with_reducible rfl)
      (try simp only [Act.put, List.getElem_toArray, List.getElem_cons_zero, List.getElem_cons_succ, List.setIfInBounds_toArray, List.set_cons_zero, List.set_cons_succ])
      refine wpAnyH_take (i := 2) (v := ?_) rfl (by kernel_rfl) (by kernel_rfl) (by kernel_rfl) (fun _ _ _ h => h) (Or.inl ⟨by rfl, ?_⟩) (by assumption) ?_
      rotate_left 1
      · intro w' hSw
        (try dsimp only at hSw)
        go_simp
        (try with_reducible rfl)
      (try simp only [Act.put, List.getElem_toArray, List.getElem_cons_zero, List.getElem_cons_succ, List.setIfInBounds_toArray, List.set_cons_zero, List.set_cons_succ])
      refine wpAnyH_take (i := 3) (v := ?_) rfl (by kernel_rfl) (by kernel_rfl) (by kernel_rfl) (fun _ _ _ h => h) (Or.inl ⟨by rfl, ?_⟩) (by assumption) ?_
      rotate_left 1
      · intro w' hSw
        (try dsimp only at hSw)
        go_simp
        (try with_reducible rfl)
      (try simp only [Act.put, List.getElem_toArray, List.getElem_cons_zero, List.getElem_cons_succ, List.setIfInBounds_toArray, List.set_cons_zero, List.set_cons_succ])
      refine wpAnyH_take (i := 4) (v := ?_) rfl (by kernel_rfl) (by kernel_rfl) (by kernel_rfl) (fun _ _ _ h => h) (Or.inl ⟨by rfl, ?_⟩) (by assumption) ?_
      rotate_left 1
      · intro w' hSw
        (try dsimp only at hSw)
        go_simp
        (try with_reducible rfl)
      (try simp only [Act.put, List.getElem_toArray, List.getElem_cons_zero, List.getElem_cons_succ, List.setIfInBounds_toArray, List.set_cons_zero, List.set_cons_succ])
      refine wpAnyH_take (i := 5) (v := ?_) rfl (by kernel_rfl) (by kernel_rfl) (by kernel_rfl) (fun _ _ _ h => h) (Or.inl ⟨by rfl, ?_⟩) (by assumption) ?_
      rotate_left 1
      · intro w' hSw
        (try dsimp only at hSw)
        go_simp
        (try with_reducible rfl)
      (try simp only [Act.put, List.getElem_toArray, List.getElem_cons_zero, List.getElem_cons_succ, List.setIfInBounds_toArray, List.set_cons_zero, List.set_cons_succ])
      refine wpAnyH_take (i := 6) (v := ?_) rfl (by kernel_rfl) (by kernel_rfl) (by kernel_rfl) (fun _ _ _ h => h) (Or.inl ⟨by rfl, ?_⟩) (by assumption) ?_
      rotate_left 1
      · intro w' hSw
        (try dsimp only at hSw)
        go_simp
        (try with_reducible rfl)
      (try simp only [Act.put, List.getElem_toArray, List.getElem_cons_zero, List.getElem_cons_succ, List.setIfInBounds_toArray, List.set_cons_zero, List.set_cons_succ])
      refine wpAnyH_take (i := 7) (v := ?_) rfl (by kernel_rfl) (by kernel_rfl) (by kernel_rfl) (fun _ _ _ h => h) (Or.inl ⟨by rfl, ?_⟩) (by assumption) ?_
      rotate_left 1
      · intro w' hSw
        (try dsimp only at hSw)
        go_simp
        (try with_reducible rfl)
      (try simp only [Act.put, List.getElem_toArray, List.getElem_cons_zero, List.getElem_cons_succ, List.setIfInBounds_toArray, List.set_cons_zero, List.set_cons_succ])
      refine wpAnyH_take (i := 9) (v := ?_) rfl (by kernel_rfl) (by kernel_rfl) (by kernel_rfl) (fun _ _ _ h => h) (Or.inl ⟨by rfl, ?_⟩) (by assumption) ?_
      rotate_left 1
      · intro w' hSw
        (try dsimp only at hSw)
        go_simp
        (try with_reducible rfl)
      (try simp only [Act.put, List.getElem_toArray, List.getElem_cons_zero, List.getElem_cons_succ, List.setIfInBounds_toArray, List.set_cons_zero, List.set_cons_succ])
      refine wpAnyH_take (i := 10) (v := ?_) rfl (by kernel_rfl) (by kernel_rfl) (by kernel_rfl) (fun _ _ _ h => h) (Or.inl ⟨by rfl, ?_⟩) (by assumption) ?_
      rotate_left 1
      · intro w' hSw
        (try dsimp only at hSw)
        go_simp
        (try with_reducible rfl)
      (try simp only [Act.put, List.getElem_toArray, List.getElem_cons_zero, List.getElem_cons_succ, List.setIfInBounds_toArray, List.set_cons_zero, List.set_cons_succ])
      refine wpAnyH_take (i := 11) (v := ?_) rfl (by kernel_rfl) (by kernel_rfl) (by kernel_rfl) (fun _ _ _ h => h) (Or.inl ⟨by rfl, ?_⟩) (by assumption) ?_
      rotate_left 1
      · intro w' hSw
        (try dsimp only at hSw)
        go_simp
        (try with_reducible rfl)
      (try simp only [Act.put, List.getElem_toArray, List.getElem_cons_zero, List.getElem_cons_succ, List.setIfInBounds_toArray, List.set_cons_zero, List.set_cons_succ])
      refine wpAnyH_take (i := 12) (v := ?_) rfl (by kernel_rfl) (by kernel_rfl) (by kernel_rfl) (fun _ _ _ h => h) (Or.inl ⟨by rfl, ?_⟩) (by assumption) ?_
      rotate_left 1
      · intro w' hSw
        (try dsimp only at hSw)
        go_simp
        (try with_reducible rfl)
      (try simp only [Act.put, List.getElem_toArray, List.getElem_cons_zero, List.getElem_cons_succ, List.setIfInBounds_toArray, List.set_cons_zero, List.set_cons_succ])
      refine wpAnyH_take (i := 13) (v := ?_) rfl (by kernel_rfl) (by kernel_rfl) (by kernel_rfl) (fun _ _ _ h => h) (Or.inl ⟨by rfl, ?_⟩) (by assumption) ?_
      rotate_left 1
      · intro w' hSw
        (try dsimp only at hSw)
        go_simp
        (try with_reducible rfl)
      (try simp only [Act.put, List.getElem_toArray, List.getElem_cons_zero, List.getElem_cons_succ, List.setIfInBounds_toArray, List.set_cons_zero, List.set_cons_succ])
      refine wpAnyH_take (i := 14) (v := ?_) rfl (by kernel_rfl) (by kernel_rfl) (by kernel_rfl) (fun _ _ _ h => h) (Or.inl ⟨by rfl, ?_⟩) (by assumption) ?_
      rotate_left 1
      · intro w' hSw
        (try dsimp only at hSw)
        go_simp
        (try with_reducible rfl)
      (try simp only [Act.put, List.getElem_toArray, List.getElem_cons_zero, List.getElem_cons_succ, List.setIfInBounds_toArray, List.set_cons_zero, List.set_cons_succ])
      refine wpAnyH_take (i := 15) (v := ?_) rfl (by kernel_rfl) (by kernel_rfl) (by kernel_rfl) (fun _ _ _ h => h) (Or.inl ⟨by rfl, ?_⟩) (by assumption) ?_
      rotate_left 1
      · intro w' hSw
        (try dsimp only at hSw)
        go_simp
        (try with_reducible rfl)
      (try simp only [Act.put, List.getElem_toArray, List.getElem_cons_zero, List.getElem_cons_succ, List.setIfInBounds_toArray, List.set_cons_zero, List.set_cons_succ])
      refine wpAnyH_ready (rs := [1]) (by kernel_rfl) (by simp) ?_
      refine AllReadyH.cons rfl (fun K hK => ?_) AllReadyH.nil
      go_simp
      have hbA : Below V.heap.size V (V.drew.alloc (.cells #[] 37)) := (Below.refl _ _).drew.alloc (Nat.le_refl _) _
      refine hK.out _ _ (HSS.out _ hbA) (fun hHeld2 => ?_)
      clear hK K
      (try simp only [Act.put, List.getElem_toArray, List.getElem_cons_zero, List.getElem_cons_succ, List.setIfInBounds_toArray, List.set_cons_zero, List.set_cons_succ])
      refine wpAnyH_ready (rs := [8]) (by kernel_rfl) (by simp) ?_
      refine AllReadyH.cons rfl (fun K hK => ?_) AllReadyH.nil
      have hq1 : (V.alloc (.cells #[] 37)).drew.heap.size = V.heap.size + 1 := by show (V.alloc _).heap.size = _; simp
      have hnew : ((V.alloc (.cells #[] 37)).drew).ownsRow V.heap.size 37 9 (.slice (some ⟨V.heap.size, 0, none⟩) 0 0) 0 (msgsCells []) := own_new V 37 9
      refine step_append_sl rfl _ _ 27 (by rfl) V.heap.size 37 _ 9 88 Try.underlying27 info37 rfl (by decide) _ 0 (msgsCells []) (by rfl) hnew (0 ≤ ·) t1 l1.length (msgsCells l1) (by rfl) (HT1.out.below (w' := (V.alloc (.cells #[] 37)).drew) hbA (Nat.le_refl _)) HO1.out (by simp only [maxLen]; omega) (by omega) (by omega) ?_
      intro v1 w1 hown1 hg1 hat1
      obtain ⟨A1, n1, rfl⟩ := own_form hown1
      have hb1 : Below V.heap.size V w1 := hbA.grown (w := (V.alloc (.cells #[] 37)).drew) hg1 (by omega) (fun q hq => Nat.le_of_eq (Option.some.inj hq))
      refine hK.out _ _ (HSS.out _ hb1) (fun hHeld3 => ?_)
      clear hK K
      (try simp only [Act.put, List.getElem_toArray, List.getElem_cons_zero, List.getElem_cons_succ, List.setIfInBounds_toArray, List.set_cons_zero, List.set_cons_succ])
      refine wpAnyH_ready (rs := [16]) (by kernel_rfl) (by simp) ?_
      refine AllReadyH.cons rfl (fun K hK => ?_) AllReadyH.nil
      have hown1' : w1.ownsRow V.heap.size 37 9 (.slice A1 (0 + l1.length) n1) (0 + l1.length) (msgsCells l1) := hown1
      have hs1 := hb1.size
      refine step_append_sl rfl _ _ 27 (by rfl) V.heap.size 37 _ 9 88 Try.underlying27 info37 rfl (by decide) _ (0 + l1.length) (msgsCells l1) (by rfl) hown1' (0 ≤ ·) t2 l2.length (msgsCells l2) (by rfl) (HT2.out.below hb1 (Nat.le_refl _)) HO2.out (by simp only [maxLen]; omega) (by omega) (by omega) ?_
      intro v2 w2 hown2 hg2 hat2
      obtain ⟨A2, n2, rfl⟩ := own_form hown2
      have hb2 : Below V.heap.size V w2 := hb1.grown hg2 hs1 (fun q hq => (own_lt hown1' hq).1)
      refine hK.out _ _ (HSS.out _ hb2) (fun hHeld4 => ?_)
      clear hK K
      (try simp only [Act.put, List.getElem_toArray, List.getElem_cons_zero, List.getElem_cons_succ, List.setIfInBounds_toArray, List.set_cons_zero, List.set_cons_succ])
      refine wpAnyH_take (i := 17) (v := ?_) rfl (by kernel_rfl) (by kernel_rfl) (by kernel_rfl) (fun _ _ _ h => h) (Or.inl ⟨by rfl, ?_⟩) (by assumption) ?_
      rotate_left 1
      · intro w' hSw
        (try dsimp only at hSw)
        go_simp
        (try with_reducible rfl)
      (try simp only [Act.put, List.getElem_toArray, List.getElem_cons_zero, List.getElem_cons_succ, List.setIfInBounds_toArray, List.set_cons_zero, List.set_cons_succ])
      refine wpAnyH_take (i := 18) (v := ?_) rfl (by kernel_rfl) (by kernel_rfl) (by kernel_rfl) (fun _ _ _ h => h) (Or.inl ⟨by rfl, ?_⟩) (by assumption) ?_
      rotate_left 1
      · intro w' hSw
        (try dsimp only at hSw)
        go_simp
        (try with_reducible rfl)
      (try simp only [Act.put, List.getElem_toArray, List.getElem_cons_zero, List.getElem_cons_succ, List.setIfInBounds_toArray, List.set_cons_zero, List.set_cons_succ])
      refine wpAnyH_done (by kernel_rfl) ?_ _
      unfold LastQ
      have x2 := hHeld4.2
      have xf2 : w2.frozen? ⟨cb, 2, none⟩ = false := (hb2.frozen (p := ⟨cb, 2, none⟩) hcl).trans HCF.out
      go_simp
      refine NoPanic.normal ?_
      go_wp2_with fail
      go_ret
      have hn0 : l1.length + l2.length = (l1 ++ l2).length := by simp
      have hown3 : w2.ownsRow V.heap.size 37 9 (.slice A2 (l1 ++ l2).length n2) (l1 ++ l2).length (msgsCells (l1 ++ l2)) := by
        rw [← hn0, msgsCells_append]
        simpa using hown2
      have hok := HV.out.putM hb2 HPR.out hown3 HL3.out
      rw [HMAP.out] at hok
      rw [hn0]
      have hws := HBV.out.size
      refine HFIN.out HD3.out ⟨_, rfl, hok, fun q hq hc => ?_, ((Fr.of_below HBV.out).trans (Fr.of_below hb2)).setCell (p := ⟨cb, 2, none⟩) (.inl (.inl rfl)) _⟩
      rcases hc with hc | hc | hc | ⟨ad, e1, e2⟩ | hc
      · exact .inl hc
      · exact .inr (.inl hc)
      · exact .inr (.inr (.inl hc))
      · change A2 = some ad at e1
        have := (own_lt hown3 (k := ad.block) (by rw [e1]; rfl)).1
        omega
      · exact .inr (.inr (.inr (.inr hc)))
  have q8 : (d == 8) = false := by simp [e8]
  by_cases e9 : d = 9
  · have q9 : (d == 9) = true := by simp [e9]
    have hD := HD.out
    rw [if_neg e8, if_pos e9] at hD
    have HD2 := Lib.hid hD
    clear hD HD e8 e9
    go_wp2_with fail
    have hc := arrive_calls HW.out HP.out o.n true
    unfold ptrV at hc
    refine hc.mono ?_
    rintro e w2 hp
    obtain ⟨L', rfl, q2, q3, q4⟩ := HFIN.out HD2.out hp
    have HQ2 := Lib.hid q2
    have HQ3 := Lib.hid q3
    have HQ4 := Lib.hid q4
    clear hp q2 q3 q4 hc
    go_wp2_with fail
    go_ret
    exact ⟨L', rfl, HQ2.out, HQ3.out, HQ4.out⟩
  have q9 : (d == 9) = false := by simp [e9]
  by_cases e10 : d = 10 ∨ d = 11
  · have hr0 := HW.out.rcell hi3
    unfold ptrV at hr0
    have hD := HD.out
    rw [if_neg e8, if_neg e9, if_pos e10] at hD
    have HD2 := Lib.hid hD
    clear hD HD
    have hq : (d == 10) = true ∨ ((d == 10) = false ∧ (d == 11) = true) := by
      rcases e10 with rfl | rfl
      · exact .inl rfl
      · exact .inr ⟨rfl, rfl⟩
    clear e8 e9 e10
    rcases hq with q10 | ⟨q10, q11⟩
    all_goals
      go_wp2_with fail
      refine (tick_calls (HW.out.rep i hi3)).mono ?_
      rintro e w2 ⟨A', cap', rv, sv, rfl, hR, hA, hO, hF⟩
      have hdn := after_done HW.out HP.out hi3 hR hA hO hF (M.tick_stores _) (M.tick_id _) (M.tick_fr _)
      unfold ptrV at hdn
      have HDN := Lib.hid hdn
      clear hdn hR hA hO hF
      go_wp2_with fail
      refine HDN.out.mono ?_
      rintro e w3 hp
      obtain ⟨L', rfl, q2, q3, q4⟩ := HFIN.out HD2.out hp
      have HQ2 := Lib.hid q2
      have HQ3 := Lib.hid q3
      have HQ4 := Lib.hid q4
      clear hp q2 q3 q4
      go_wp2_with fail
      go_ret
      exact ⟨L', rfl, HQ2.out, HQ3.out, HQ4.out⟩
  have q10 : (d == 10) = false := by simp only [beq_eq_false_iff_ne]; exact fun h => e10 (.inl h)
  have q11 : (d == 11) = false := by simp only [beq_eq_false_iff_ne]; exact fun h => e10 (.inr h)
  by_cases e12 : d = 12 ∨ d = 13
  · have hr0 := HW.out.rcell hi3
    unfold ptrV at hr0
    have hD := HD.out
    rw [if_neg e8, if_neg e9, if_neg e10, if_pos e12] at hD
    have HD2 := Lib.hid hD
    clear hD HD
    have hq : (d == 12) = true ∨ ((d == 12) = false ∧ (d == 13) = true) := by
      rcases e12 with rfl | rfl
      · exact .inl rfl
      · exact .inr ⟨rfl, rfl⟩
    have hlt : (x.r.getD i M.zRep).role = 2 → 1 ≤ (x.r.getD i M.zRep).hard.term := fun e => M.node_lt HP.out.inv.gi (HP.out.inv.node i hi3) (HW.out.rep i hi3).wf.role0 (HW.out.rep i hi3).wf.role2 (by show (x.r.getD i M.zRep).role ≠ 0; rw [e]; decide)
    have HLT := Lib.hid hlt
    have hrl := HW.out.rkind.lt
    have hbl := lt_blk HBX.out
    have HBK : Hid (Kind W w.heap.size 30) := ⟨_, _, HBX.out⟩
    have hS : ∀ w', Fr (RepS (L.bs i) (L.As i)) W w' → (w'.cell? ⟨cb, 0, none⟩ = some (.slice (some ⟨L.rA, 0, none⟩) 3 L.rc) ∧ w'.cell? ⟨L.rA, i, none⟩ = some (.pointer (some ⟨L.bs i, 0, none⟩)) ∧ w'.cell? ⟨w.heap.size, 3, none⟩ = some (.string o.data)) := fun w' hf => by
      have hcR : ∀ {q T}, Kind W q T → T ≠ 76 → T ≠ 55 → ¬ RepS (L.bs i) (L.As i) q := fun hk h1 h2 e => by
        rcases e with rfl | ⟨ad, e1, rfl⟩
        · exact hk.ne (HW.out.bkind hi3) h1 rfl
        · exact hk.ne (HW.out.akind hi3 e1) h2 rfl
      exact ⟨(World.cell?_of_block (w := W) (hf.block cb hcl (hcR HW.out.kind (by decide) (by decide)))).trans c0, (World.cell?_of_block (w := W) (hf.block L.rA hrl (hcR HW.out.rkind (by decide) (by decide)))).trans hr0, (World.cell?_of_block (w := W) (hf.block w.heap.size hbl (hcR HBK.out (by decide) (by decide)))).trans b3⟩
    have HSS := Lib.hid hS
    clear e8 e9 e10 e12 hlt hS c0 c1 c2 b2 b3 hr0
    rcases hq with q12 | ⟨q12, q13⟩
    all_goals
      go_upto_region 15 with fail
      refine wp_region_noPanic ?_
      refine wp_region_last (S := fun w' => w'.cell? ⟨cb, 0, none⟩ = some (.slice (some ⟨L.rA, 0, none⟩) 3 L.rc) ∧ w'.cell? ⟨L.rA, i, none⟩ = some (.pointer (some ⟨L.bs i, 0, none⟩)) ∧ w'.cell? ⟨w.heap.size, 3, none⟩ = some (.string o.data)) (by kernel_rfl) (by kernel_rfl) (last_split _ (by kernel_rfl)) (HSS.out _ (Fr.refl _ _).drew) (fun hHeld => ?_)
      simp only [List.pop_toArray, List.dropLast_cons_cons, List.dropLast_singleton, List.back?_toArray, List.getLast?_cons_cons, List.getLast?_singleton, Option.getD_some]
      refine wpAnyH_take (i := 0) (v := ?_) rfl (by kernel_rfl) (by kernel_rfl) (by kernel_rfl) (fun _ _ _ h => h) (Or.inl ⟨by rfl, ?_⟩) (by assumption) ?_
      rotate_left 1
      · intro w' hSw
        (try dsimp only at hSw)
        go_simp
        (try with_reducible rfl)
      (try simp only [Act.put, List.getElem_toArray, List.getElem_cons_zero, List.getElem_cons_succ, List.setIfInBounds_toArray, List.set_cons_zero, List.set_cons_succ])
      refine wpAnyH_take (i := 1) (v := ?_) rfl (by kernel_rfl) (by kernel_rfl) (by kernel_rfl) (fun _ _ _ h => h) (Or.inl ⟨by rfl, ?_⟩) (by assumption) ?_
      rotate_left 1
      · intro w' hSw
        (try dsimp only at hSw)
        go_simp
        (try with_reducible rfl)
      (try simp only [Act.put, List.getElem_toArray, List.getElem_cons_zero, List.getElem_cons_succ, List.setIfInBounds_toArray, List.set_cons_zero, List.set_cons_succ])
      refine wpAnyH_take (i := 2) (v := ?_) rfl (by kernel_rfl) (by kernel_rfl) (by kernel_rfl) (fun _ _ _ h => h) (Or.inl ⟨by rfl, ?_⟩) (by assumption) ?_
      rotate_left 1
      · intro w' hSw
        (try dsimp only at hSw)
        go_simp
        (try with_reducible rfl)
      (try simp only [Act.put, List.getElem_toArray, List.getElem_cons_zero, List.getElem_cons_succ, List.setIfInBounds_toArray, List.set_cons_zero, List.set_cons_succ])
      refine wpAnyH_take (i := 3) (v := ?_) rfl (by kernel_rfl) (by kernel_rfl) (by kernel_rfl) (fun _ _ _ h => h) (Or.inl ⟨by rfl, ?_⟩) (by assumption) ?_
      rotate_left 1
      · intro w' hSw
        (try dsimp only at hSw)
        go_simp
        (try with_reducible rfl)
      (try simp only [Act.put, List.getElem_toArray, List.getElem_cons_zero, List.getElem_cons_succ, List.setIfInBounds_toArray, List.set_cons_zero, List.set_cons_succ])
      refine wpAnyH_take (i := 4) (v := ?_) rfl (by kernel_rfl) (by kernel_rfl) (by kernel_rfl) (fun _ _ _ h => h) (Or.inl ⟨by rfl, ?_⟩) (by assumption) ?_
      rotate_left 1
      · intro w' hSw
        (try dsimp only at hSw)
        go_simp
        (try with_reducible rfl)
      (try simp only [Act.put, List.getElem_toArray, List.getElem_cons_zero, List.getElem_cons_succ, List.setIfInBounds_toArray, List.set_cons_zero, List.set_cons_succ])
      refine wpAnyH_take (i := 5) (v := ?_) rfl (by kernel_rfl) (by kernel_rfl) (by kernel_rfl) (fun _ _ _ h => h) (Or.inl ⟨by rfl, ?_⟩) (by assumption) ?_
      rotate_left 1
      · intro w' hSw
        (try dsimp only at hSw)
        go_simp
        (try with_reducible rfl)
      (try simp only [Act.put, List.getElem_toArray, List.getElem_cons_zero, List.getElem_cons_succ, List.setIfInBounds_toArray, List.set_cons_zero, List.set_cons_succ])
      refine wpAnyH_take (i := 6) (v := ?_) rfl (by kernel_rfl) (by kernel_rfl) (by kernel_rfl) (fun _ _ _ h => h) (Or.inl ⟨by rfl, ?_⟩) (by assumption) ?_
      rotate_left 1
      · intro w' hSw
        (try dsimp only at hSw)
        go_simp
        (try with_reducible rfl)
      (try simp only [Act.put, List.getElem_toArray, List.getElem_cons_zero, List.getElem_cons_succ, List.setIfInBounds_toArray, List.set_cons_zero, List.set_cons_succ])
      refine wpAnyH_take (i := 7) (v := ?_) rfl (by kernel_rfl) (by kernel_rfl) (by kernel_rfl) (fun _ _ _ h => h) (Or.inl ⟨by rfl, ?_⟩) (by assumption) ?_
      rotate_left 1
      · intro w' hSw
        (try dsimp only at hSw)
        go_simp
        (try with_reducible rfl)
      (try simp only [Act.put, List.getElem_toArray, List.getElem_cons_zero, List.getElem_cons_succ, List.setIfInBounds_toArray, List.set_cons_zero, List.set_cons_succ])
      refine wpAnyH_take (i := 8) (v := ?_) rfl (by kernel_rfl) (by kernel_rfl) (by kernel_rfl) (fun _ _ _ h => h) (Or.inl ⟨by rfl, ?_⟩) (by assumption) ?_
      rotate_left 1
      · intro w' hSw
        (try dsimp only at hSw)
        go_simp
        (try with_reducible rfl)
      (try simp only [Act.put, List.getElem_toArray, List.getElem_cons_zero, List.getElem_cons_succ, List.setIfInBounds_toArray, List.set_cons_zero, List.set_cons_succ])
      refine wpAnyH_ready (rs := [9, 14]) (by kernel_rfl) (by simp) ?_
      refine AllReadyH.cons rfl (fun K hK => ?_) (AllReadyH.cons rfl (fun K hK => ?_) AllReadyH.nil)
      · clear hHeld
        go_simp
        go_at_call 16
        refine (propose_calls (HW.out.drew.rep i hi3) o.data hd HLT.out).mono ?_
        generalize hpp : M.propose (x.r.getD i M.zRep) o.data = pp
        obtain ⟨r', n', k', o'⟩ := pp
        rintro e w2 ⟨A', cap', rv, sv, rfl, hR, hA, hO, hF⟩
        obtain ⟨rA', rc', rfl⟩ := own_form hO.recs
        obtain ⟨sA', sc', rfl⟩ := msgs_form hO.send
        have HPP := Lib.hid hpp
        clear hpp
        refine hK.out _ _ (HSS.out _ ((Fr.refl _ W).drew.trans hF)) (fun hHeld2 => ?_)
        clear hK K
        (try simp only [Act.put, List.getElem_toArray, List.getElem_cons_zero, List.getElem_cons_succ, List.setIfInBounds_toArray, List.set_cons_zero, List.set_cons_succ])
        refine wpAnyH_take (i := 10) (v := ?_) rfl (by kernel_rfl) (by kernel_rfl) (by kernel_rfl) (fun _ _ _ h => h) (Or.inl ⟨by rfl, ?_⟩) (by assumption) ?_
        rotate_left 1
        · intro w' hSw
          (try dsimp only at hSw)
          go_simp
          (try with_reducible rfl)
        (try simp only [Act.put, List.getElem_toArray, List.getElem_cons_zero, List.getElem_cons_succ, List.setIfInBounds_toArray, List.set_cons_zero, List.set_cons_succ])
        refine wpAnyH_take (i := 11) (v := ?_) rfl (by kernel_rfl) (by kernel_rfl) (by kernel_rfl) (fun _ _ _ h => h) (Or.inl ⟨by rfl, ?_⟩) (by assumption) ?_
        rotate_left 1
        · intro w' hSw
          (try dsimp only at hSw)
          go_simp
          (try with_reducible rfl)
        (try simp only [Act.put, List.getElem_toArray, List.getElem_cons_zero, List.getElem_cons_succ, List.setIfInBounds_toArray, List.set_cons_zero, List.set_cons_succ])
        refine wpAnyH_take (i := 12) (v := ?_) rfl (by kernel_rfl) (by kernel_rfl) (by kernel_rfl) (fun _ _ _ h => h) (Or.inl ⟨by rfl, ?_⟩) (by assumption) ?_
        rotate_left 1
        · intro w' hSw
          (try dsimp only at hSw)
          go_simp
          (try with_reducible rfl)
        (try simp only [Act.put, List.getElem_toArray, List.getElem_cons_zero, List.getElem_cons_succ, List.setIfInBounds_toArray, List.set_cons_zero, List.set_cons_succ])
        refine wpAnyH_take (i := 13) (v := ?_) rfl (by kernel_rfl) (by kernel_rfl) (by kernel_rfl) (fun _ _ _ h => h) (Or.inl ⟨by rfl, ?_⟩) (by assumption) ?_
        rotate_left 1
        · intro w' hSw
          (try dsimp only at hSw)
          go_simp
          (try with_reducible rfl)
        (try simp only [Act.put, List.getElem_toArray, List.getElem_cons_zero, List.getElem_cons_succ, List.setIfInBounds_toArray, List.set_cons_zero, List.set_cons_succ])
        refine wpAnyH_ready (rs := [14]) (by kernel_rfl) (by simp) ?_
        refine AllReadyH.cons rfl (fun K hK => ?_) AllReadyH.nil
        go_simp
        refine hK.out _ _ (HSS.out _ (((Fr.refl _ W).drew.trans hF).alloc _)) (fun hHeld3 => ?_)
        clear hK K hHeld2
        (try simp only [Act.put, List.getElem_toArray, List.getElem_cons_zero, List.getElem_cons_succ, List.setIfInBounds_toArray, List.set_cons_zero, List.set_cons_succ])
        refine wpAnyH_take (i := 15) (v := ?_) rfl (by kernel_rfl) (by kernel_rfl) (by kernel_rfl) (fun _ _ _ h => h) (Or.inl ⟨by rfl, ?_⟩) (by assumption) ?_
        rotate_left 1
        · intro w' hSw
          (try dsimp only at hSw)
          go_simp
          (try with_reducible rfl)
        (try simp only [Act.put, List.getElem_toArray, List.getElem_cons_zero, List.getElem_cons_succ, List.setIfInBounds_toArray, List.set_cons_zero, List.set_cons_succ])
        refine wpAnyH_take (i := 16) (v := ?_) rfl (by kernel_rfl) (by kernel_rfl) (by kernel_rfl) (fun _ _ _ h => h) (Or.inl ⟨by rfl, ?_⟩) (by assumption) ?_
        rotate_left 1
        · intro w' hSw
          (try dsimp only at hSw)
          go_simp
          (try with_reducible rfl)
        (try simp only [Act.put, List.getElem_toArray, List.getElem_cons_zero, List.getElem_cons_succ, List.setIfInBounds_toArray, List.set_cons_zero, List.set_cons_succ])
        have hz := heap_alloc_new w2 (.cells #[.bool false, .int .i64 0, .int .i64 0, .int .i64 0, .slice none 0 0, .slice none 0 0] 45)
        have hfz : Fr (RepS (L.bs i) (L.As i)) W (w2.alloc (.cells #[.bool false, .int .i64 0, .int .i64 0, .int .i64 0, .slice none 0 0, .slice none 0 0] 45)) := ((Fr.refl _ W).drew.trans hF).alloc _
        have hbz : Below w2.heap.size w2 (w2.alloc (.cells #[.bool false, .int .i64 0, .int .i64 0, .int .i64 0, .slice none 0 0, .slice none 0 0] 45)) := (Below.refl _ _).alloc (Nat.le_refl _) _
        have hws : W.heap.size ≤ w2.heap.size := hF.size
        have HZ := Lib.hid hz
        have HRZ := Lib.hid (hR.below hbz (Nat.le_refl _))
        have HAZ : Hid (FreshRow W (w2.alloc (.cells #[.bool false, .int .i64 0, .int .i64 0, .int .i64 0, .slice none 0 0, .slice none 0 0] 45)) (L.As i) A' o' (.slice rA' o'.recs.length rc') (.slice sA' o'.send.length sc')) := hA.imp id (fun h ad e => ⟨(h ad e).1, (h ad e).2.1, (h ad e).2.2.fr (S := fun _ => False) (Fr.of_below hbz) (fun _ _ _ h => h)⟩)
        have HOZ := Lib.hid (hO.fr (S := fun _ => False) (Fr.of_below hbz) (fun _ _ _ h => h))
        have HFZ := Lib.hid hfz
        generalize hzs : w2.heap.size = Z at *
        generalize hwz : w2.alloc (.cells #[.bool false, .int .i64 0, .int .i64 0, .int .i64 0, .slice none 0 0, .slice none 0 0] 45) = wz at *
        clear hR hA hO hF hz hfz hbz hzs hwz hHeld3
        refine wpAnyH_done (by kernel_rfl) ?_ _
        unfold LastQ
        refine wp_store_row 45 (.tmp 9) (.tmp 87) rfl Z _ rfl rfl 45 _ HZ.out size45 rfl (by rw [← Array.all_toList]; rfl) ?_
        refine NoPanic.normal ?_
        have hx := setRow_heap _ _ _ #[.bool o'.save, .int .i64 o'.hard.term, .int .i64 o'.hard.vote, .int .i64 o'.fr, .slice rA' o'.recs.length rc', .slice sA' o'.send.length sc'] _ _ HZ.out
        have hks : ∀ k, Kind wz k 37 ∨ Kind wz k 55 → ¬ k = Z := fun k hk e => by
          rcases hk with hk | hk
          · exact hk.ne ⟨_, _, HZ.out⟩ (by decide) e
          · exact hk.ne ⟨_, _, HZ.out⟩ (by decide) e
        have hfs := fr_setRow wz Z #[.bool o'.save, .int .i64 o'.hard.term, .int .i64 o'.hard.vote, .int .i64 o'.fr, .slice rA' o'.recs.length rc', .slice sA' o'.send.length sc']
        have HR3 := Lib.hid (HRZ.out.fr hfs (fun k hk e => by
          rcases hk with rfl | ⟨ad, e1, rfl⟩
          · exact HRZ.out.kind.ne ⟨_, _, HZ.out⟩ (by decide) e
          · exact hks _ (.inr (own_kind HRZ.out.own (k := ad.block) (by rw [e1]; rfl))) e))
        have HA3 : Hid (FreshRow W (wz.setRow Z #[.bool o'.save, .int .i64 o'.hard.term, .int .i64 o'.hard.vote, .int .i64 o'.fr, .slice rA' o'.recs.length rc', .slice sA' o'.send.length sc']) (L.As i) A' o' (.slice rA' o'.recs.length rc') (.slice sA' o'.send.length sc')) := HAZ.out.imp id (fun h ad e => ⟨(h ad e).1, (h ad e).2.1, (h ad e).2.2.fr hfs (fun k _ hk => hks k hk)⟩)
        have HO3 := Lib.hid (HOZ.out.fr hfs (fun k _ hk => hks k hk))
        have HF3 := Lib.hid (HFZ.out.trans2 hfs (fun k e => .inr (by rw [e]; exact hws)))
        generalize wz.setRow Z #[.bool o'.save, .int .i64 o'.hard.term, .int .i64 o'.hard.vote, .int .i64 o'.fr, .slice rA' o'.recs.length rc', .slice sA' o'.send.length sc'] = w3 at *
        clear hfs hks HZ HRZ HAZ HOZ HFZ
        have z0 := cell_blk hx 0
        have z1 := cell_blk hx 1
        have z2 := cell_blk hx 2
        have z3 := cell_blk hx 3
        have z4 := cell_blk hx 4
        have z5 := cell_blk hx 5
        simp only [List.getElem?_cons_succ, List.getElem?_cons_zero] at z0 z1 z2 z3 z4 z5
        clear hx
        have hst := M.propose_stores (M.Rf x i) o.data
        have hidd := M.propose_id (M.Rf x i) o.data
        have hfrr := M.propose_fr (M.Rf x i) o.data (HW.out.rep i hi3).wf.len
        have hpp : M.propose (M.Rf x i) o.data = (r', n', k', o') := HPP.out
        rw [hpp] at hst hidd hfrr
        have hdn := after_done HW.out HP.out hi3 HR3.out HA3.out HO3.out HF3.out hst hidd hfrr
        have hD := HD2.out
        rw [hpp] at hD
        have HD3 := Lib.hid hD
        unfold ptrV at hdn
        have HDN := Lib.hid hdn
        clear hdn HR3 HA3 HO3 HF3 HD2 hD hpp HPP hst hidd hfrr
        go_wp2_with fail
        refine HDN.out.mono ?_
        rintro e w4 hp
        obtain ⟨L', rfl, q2, q3, q4⟩ := HFIN.out HD3.out hp
        have HQ2 := Lib.hid q2
        have HQ3 := Lib.hid q3
        have HQ4 := Lib.hid q4
        clear hp q2 q3 q4
        go_wp2_with fail
        go_ret
        exact ⟨L', rfl, HQ2.out, HQ3.out, HQ4.out⟩
      · clear hHeld
        go_simp
        have hfz0 : Fr (RepS (L.bs i) (L.As i)) W (W.alloc (.cells #[.bool false, .int .i64 0, .int .i64 0, .int .i64 0, .slice none 0 0, .slice none 0 0] 45)).drew := ((Fr.refl _ W).alloc _).drew
        refine hK.out _ _ (HSS.out _ hfz0) (fun hHeld2 => ?_)
        clear hK K
        (try simp only [Act.put, List.getElem_toArray, List.getElem_cons_zero, List.getElem_cons_succ, List.setIfInBounds_toArray, List.set_cons_zero, List.set_cons_succ])
        refine wpAnyH_ready (rs := [9]) (by kernel_rfl) (by simp) ?_
        refine AllReadyH.cons rfl (fun K hK => ?_) AllReadyH.nil
        go_simp
        go_at_call 16
        refine (propose_calls ((HW.out.alloc (.cells #[.bool false, .int .i64 0, .int .i64 0, .int .i64 0, .slice none 0 0, .slice none 0 0] 45)).drew.rep i hi3) o.data hd HLT.out).mono ?_
        generalize hpp : M.propose (x.r.getD i M.zRep) o.data = pp
        obtain ⟨r', n', k', o'⟩ := pp
        rintro e w2 ⟨A', cap', rv, sv, rfl, hR, hA, hO, hF⟩
        obtain ⟨rA', rc', rfl⟩ := own_form hO.recs
        obtain ⟨sA', sc', rfl⟩ := msgs_form hO.send
        have HPP := Lib.hid hpp
        clear hpp
        refine hK.out _ _ (HSS.out _ (hfz0.trans hF)) (fun hHeld3 => ?_)
        clear hK K hHeld2
        (try simp only [Act.put, List.getElem_toArray, List.getElem_cons_zero, List.getElem_cons_succ, List.setIfInBounds_toArray, List.set_cons_zero, List.set_cons_succ])
        refine wpAnyH_take (i := 10) (v := ?_) rfl (by kernel_rfl) (by kernel_rfl) (by kernel_rfl) (fun _ _ _ h => h) (Or.inl ⟨by rfl, ?_⟩) (by assumption) ?_
        rotate_left 1
        · intro w' hSw
          (try dsimp only at hSw)
          go_simp
          (try with_reducible rfl)
        (try simp only [Act.put, List.getElem_toArray, List.getElem_cons_zero, List.getElem_cons_succ, List.setIfInBounds_toArray, List.set_cons_zero, List.set_cons_succ])
        refine wpAnyH_take (i := 11) (v := ?_) rfl (by kernel_rfl) (by kernel_rfl) (by kernel_rfl) (fun _ _ _ h => h) (Or.inl ⟨by rfl, ?_⟩) (by assumption) ?_
        rotate_left 1
        · intro w' hSw
          (try dsimp only at hSw)
          go_simp
          (try with_reducible rfl)
        (try simp only [Act.put, List.getElem_toArray, List.getElem_cons_zero, List.getElem_cons_succ, List.setIfInBounds_toArray, List.set_cons_zero, List.set_cons_succ])
        refine wpAnyH_take (i := 12) (v := ?_) rfl (by kernel_rfl) (by kernel_rfl) (by kernel_rfl) (fun _ _ _ h => h) (Or.inl ⟨by rfl, ?_⟩) (by assumption) ?_
        rotate_left 1
        · intro w' hSw
          (try dsimp only at hSw)
          go_simp
          (try with_reducible rfl)
        (try simp only [Act.put, List.getElem_toArray, List.getElem_cons_zero, List.getElem_cons_succ, List.setIfInBounds_toArray, List.set_cons_zero, List.set_cons_succ])
        refine wpAnyH_take (i := 13) (v := ?_) rfl (by kernel_rfl) (by kernel_rfl) (by kernel_rfl) (fun _ _ _ h => h) (Or.inl ⟨by rfl, ?_⟩) (by assumption) ?_
        rotate_left 1
        · intro w' hSw
          (try dsimp only at hSw)
          go_simp
          (try with_reducible rfl)
        (try simp only [Act.put, List.getElem_toArray, List.getElem_cons_zero, List.getElem_cons_succ, List.setIfInBounds_toArray, List.set_cons_zero, List.set_cons_succ])
        refine wpAnyH_take (i := 15) (v := ?_) rfl (by kernel_rfl) (by kernel_rfl) (by kernel_rfl) (fun _ _ _ h => h) (Or.inl ⟨by rfl, ?_⟩) (by assumption) ?_
        rotate_left 1
        · intro w' hSw
          (try dsimp only at hSw)
          go_simp
          (try with_reducible rfl)
        (try simp only [Act.put, List.getElem_toArray, List.getElem_cons_zero, List.getElem_cons_succ, List.setIfInBounds_toArray, List.set_cons_zero, List.set_cons_succ])
        refine wpAnyH_take (i := 16) (v := ?_) rfl (by kernel_rfl) (by kernel_rfl) (by kernel_rfl) (fun _ _ _ h => h) (Or.inl ⟨by rfl, ?_⟩) (by assumption) ?_
        rotate_left 1
        · intro w' hSw
          (try dsimp only at hSw)
          go_simp
          (try with_reducible rfl)
        (try simp only [Act.put, List.getElem_toArray, List.getElem_cons_zero, List.getElem_cons_succ, List.setIfInBounds_toArray, List.set_cons_zero, List.set_cons_succ])
        have hsz1 : (W.alloc (.cells #[.bool false, .int .i64 0, .int .i64 0, .int .i64 0, .slice none 0 0, .slice none 0 0] 45)).drew.heap.size = W.heap.size + 1 := by show (W.alloc _).heap.size = _; simp
        have hz0 : ((W.alloc (.cells #[.bool false, .int .i64 0, .int .i64 0, .int .i64 0, .slice none 0 0, .slice none 0 0] 45)).drew).heap[W.heap.size]? = some (.cells #[.bool false, .int .i64 0, .int .i64 0, .int .i64 0, .slice none 0 0, .slice none 0 0] 45) := heap_alloc_new W _
        have hz := (hF.block W.heap.size (by omega) (fun e => by
          rcases e with e | ⟨ad, e1, e2⟩
          · have := (HW.out.bkind hi3).lt; omega
          · have := (HW.out.akind hi3 e1).lt; omega)).trans hz0
        have hfz : Fr (RepS (L.bs i) (L.As i)) W w2 := hfz0.trans hF
        have hws : W.heap.size ≤ W.heap.size := Nat.le_refl _
        have HZ := Lib.hid hz
        have HRZ := Lib.hid hR
        have HAZ : Hid (FreshRow W w2 (L.As i) A' o' (.slice rA' o'.recs.length rc') (.slice sA' o'.send.length sc')) := hA.imp id (fun h ad e => ⟨by have := (h ad e).1; omega, (h ad e).2.1, (h ad e).2.2⟩)
        have HOZ : Hid (OutOk w2 W.heap.size o' (.slice rA' o'.recs.length rc') (.slice sA' o'.send.length sc')) := ⟨own_mono hO.recs (by omega), hO.send.mono (by omega)⟩
        have HFZ := Lib.hid hfz
        clear hR hA hO hF hz hfz hfz0 hz0 hsz1 hHeld3
        generalize hwz : w2 = wz at *
        clear hwz
        refine wpAnyH_done (by kernel_rfl) ?_ _
        unfold LastQ
        refine wp_store_row 45 (.tmp 9) (.tmp 87) rfl W.heap.size _ rfl rfl 45 _ HZ.out size45 rfl (by rw [← Array.all_toList]; rfl) ?_
        refine NoPanic.normal ?_
        have hx := setRow_heap _ _ _ #[.bool o'.save, .int .i64 o'.hard.term, .int .i64 o'.hard.vote, .int .i64 o'.fr, .slice rA' o'.recs.length rc', .slice sA' o'.send.length sc'] _ _ HZ.out
        have hks : ∀ k, Kind wz k 37 ∨ Kind wz k 55 → ¬ k = W.heap.size := fun k hk e => by
          rcases hk with hk | hk
          · exact hk.ne ⟨_, _, HZ.out⟩ (by decide) e
          · exact hk.ne ⟨_, _, HZ.out⟩ (by decide) e
        have hfs := fr_setRow wz W.heap.size #[.bool o'.save, .int .i64 o'.hard.term, .int .i64 o'.hard.vote, .int .i64 o'.fr, .slice rA' o'.recs.length rc', .slice sA' o'.send.length sc']
        have HR3 := Lib.hid (HRZ.out.fr hfs (fun k hk e => by
          rcases hk with rfl | ⟨ad, e1, rfl⟩
          · exact HRZ.out.kind.ne ⟨_, _, HZ.out⟩ (by decide) e
          · exact hks _ (.inr (own_kind HRZ.out.own (k := ad.block) (by rw [e1]; rfl))) e))
        have HA3 : Hid (FreshRow W (wz.setRow W.heap.size #[.bool o'.save, .int .i64 o'.hard.term, .int .i64 o'.hard.vote, .int .i64 o'.fr, .slice rA' o'.recs.length rc', .slice sA' o'.send.length sc']) (L.As i) A' o' (.slice rA' o'.recs.length rc') (.slice sA' o'.send.length sc')) := HAZ.out.imp id (fun h ad e => ⟨(h ad e).1, (h ad e).2.1, (h ad e).2.2.fr hfs (fun k _ hk => hks k hk)⟩)
        have HO3 := Lib.hid (HOZ.out.fr hfs (fun k _ hk => hks k hk))
        have HF3 := Lib.hid (HFZ.out.trans2 hfs (fun k e => .inr (by rw [e]; exact hws)))
        generalize wz.setRow W.heap.size #[.bool o'.save, .int .i64 o'.hard.term, .int .i64 o'.hard.vote, .int .i64 o'.fr, .slice rA' o'.recs.length rc', .slice sA' o'.send.length sc'] = w3 at *
        clear hfs hks HZ HRZ HAZ HOZ HFZ
        have z0 := cell_blk hx 0
        have z1 := cell_blk hx 1
        have z2 := cell_blk hx 2
        have z3 := cell_blk hx 3
        have z4 := cell_blk hx 4
        have z5 := cell_blk hx 5
        simp only [List.getElem?_cons_succ, List.getElem?_cons_zero] at z0 z1 z2 z3 z4 z5
        clear hx
        have hst := M.propose_stores (M.Rf x i) o.data
        have hidd := M.propose_id (M.Rf x i) o.data
        have hfrr := M.propose_fr (M.Rf x i) o.data (HW.out.rep i hi3).wf.len
        have hpp : M.propose (M.Rf x i) o.data = (r', n', k', o') := HPP.out
        rw [hpp] at hst hidd hfrr
        have hdn := after_done HW.out HP.out hi3 HR3.out HA3.out HO3.out HF3.out hst hidd hfrr
        have hD := HD2.out
        rw [hpp] at hD
        have HD3 := Lib.hid hD
        unfold ptrV at hdn
        have HDN := Lib.hid hdn
        clear hdn HR3 HA3 HO3 HF3 HD2 hD hpp HPP hst hidd hfrr
        go_wp2_with fail
        refine HDN.out.mono ?_
        rintro e w4 hp
        obtain ⟨L', rfl, q2, q3, q4⟩ := HFIN.out HD3.out hp
        have HQ2 := Lib.hid q2
        have HQ3 := Lib.hid q3
        have HQ4 := Lib.hid q4
        clear hp q2 q3 q4
        go_wp2_with fail
        go_ret
        exact ⟨L', rfl, HQ2.out, HQ3.out, HQ4.out⟩
  have q12 : (d == 12) = false := by simp only [beq_eq_false_iff_ne]; exact fun h => e12 (.inl h)
  have q13 : (d == 13) = false := by simp only [beq_eq_false_iff_ne]; exact fun h => e12 (.inr h)
  by_cases e14 : d = 14
  · have q14 : (d == 14) = true := by simp [e14]
    have hD := HD.out
    rw [if_neg e8, if_neg e9, if_neg e10, if_neg e12, if_pos e14] at hD
    have HD2 := Lib.hid hD
    clear hD HD e8 e9 e10 e12 e14
    go_wp2_with fail
    have hc := start_calls HW.out hi3 (new_of_wf (HH.out.rep i hi3).wf (HP.out.inv.node i hi3).id (HP.out.st i hi3).1 (HP.out.st i hi3).2)
    unfold ptrV at hc
    refine hc.mono ?_
    rintro e w2 hp
    obtain ⟨L', rfl, q2, q3, q4⟩ := HFIN.out HD2.out hp
    have HQ2 := Lib.hid q2
    have HQ3 := Lib.hid q3
    have HQ4 := Lib.hid q4
    clear hp q2 q3 q4 hc
    go_wp2_with fail
    go_ret
    exact ⟨L', rfl, HQ2.out, HQ3.out, HQ4.out⟩
  have q14 : (d == 14) = false := by simp [e14]
  by_cases e15 : d = 15
  · have q15 : (d == 15) = true := by simp [e15]
    have hD := HD.out
    rw [if_neg e8, if_neg e9, if_neg e10, if_neg e12, if_neg e14, if_pos e15] at hD
    have HD2 := Lib.hid hD
    obtain ⟨s0, s1, s2, s3⟩ := HW.out.scells hi3
    have f3 := HW.out.sfree (i * 4 + 3)
    have hmm : bits .and .i64 o.n 1 = o.n % 2 := and1 o.n
    have hw1 : IntKind.i64.wrap (1 + o.n % 2) = 1 + o.n % 2 := IntWalk.i64_in _ (by omega)
    clear hD HD e8 e9 e10 e12 e14 e15
    go_upto_region 20 with fail
    go_region
    all_goals
      go_wp2_with fail
      go_ret
      refine HFIN.out HD2.out ⟨L, rfl, ?_, fun _ _ h => h, ((Fr.refl _ W).setCell (p := ⟨L.sA, i * 4 + 3, none⟩) (.inl (.inr (.inr (.inl rfl)))) _).drew⟩
      exact (HW.out.putS hi3 3 (.int .i64 (1 + o.n % 2)) { x.s.getD i M.zSt with stop := 1 + o.n % 2 } _ rfl rfl rfl (by omega)).drew
  have q15 : (d == 15) = false := by simp [e15]
  have hD := HD.out
  rw [if_neg e8, if_neg e9, if_neg e10, if_neg e12, if_neg e14, if_neg e15] at hD
  have HD2 := Lib.hid hD
  clear hD HD e8 e9 e10 e12 e14 e15
  go_wp2_with fail
  have hc := arrive_calls HW.out HP.out o.n false
  unfold ptrV at hc
  refine hc.mono ?_
  rintro e w2 hp
  obtain ⟨L', rfl, q2, q3, q4⟩ := HFIN.out HD2.out hp
  have HQ2 := Lib.hid q2
  have HQ3 := Lib.hid q3
  have HQ4 := Lib.hid q4
  clear hp q2 q3 q4 hc
  go_wp2_with fail
  go_ret
  exact ⟨L', rfl, HQ2.out, HQ3.out, HQ4.out⟩
end
end Go.Proofs.Ytodmihpmbecncaa
