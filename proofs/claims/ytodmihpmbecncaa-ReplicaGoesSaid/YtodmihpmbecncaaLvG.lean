/-
  The law ReplicaGoes: what it keeps in memory while the operations run, and until nothing is in flight. No condition.
-/
import Derived.Test.YtodmihpmbecncaaLvF
namespace Go.Proofs.Ytodmihpmbecncaa
open Go.RowKit

namespace M
theorem bd_begin : Bd 0 begin_ := by
  refine ⟨fun i hi => ?_, fun m hm => by cases hm⟩
  have h : Rf begin_ i = made i ⟨⟨0, -1⟩, [], 0⟩ := by
    have : i = 0 ∨ i = 1 ∨ i = 2 := by omega
    rcases this with rfl | rfl | rfl <;> rfl
  rw [h]
  exact ⟨Int.le_refl _, Int.le_refl _, fun (e : (0 : Int) = 2) => absurd e (by decide)⟩
end M
/-- The memory of ReplicaGoes while the operations run. -/
structure GoSt (w wr : World) (cb : Nat) (x : M.Cl) (L : Lay) (g : M.Gh) (c : Int) : Prop extends LwSt w wr cb x L g where
  bd : M.Bd c x
section
variable {w wr w2 : World} {cb : Nat} {x : M.Cl} {L : Lay} {g : M.Gh} {c : Int}
theorem GoSt.below' (h : GoSt w wr cb x L g c) (hb : Below wr.heap.size wr w2) : GoSt w w2 cb x L g c := ⟨h.toLwSt.below' hb, h.bd⟩
theorem GoSt.step {e : Ending} {o : M.Op} (h : GoSt w wr cb x L g c) (hp : ClPost wr cb L (M.step x o) e w2) : e = .returned (.bool true) ∧ ∃ L' g', GoSt w w2 cb (M.step x o) L' g' (c + 1) := by
  obtain ⟨he, L', g', h', _⟩ := h.toLwSt.step hp
  exact ⟨he, L', g', h', M.step_bd h.bd h.inv h.wf o⟩
/-- All that was in flight is lost. -/
theorem GoSt.lose (h : GoSt w wr cb x L g c) : GoSt w (wr.setCell ⟨cb, 2, none⟩ (.slice none 0 0)) cb { x with sent := [] } { L with mA := none, mc := 0 } g c := by
  have hs := h.below.size
  have hcb := h.cls cb (.inl rfl)
  have hf : Fr (fun k => k = cb) wr (wr.setCell ⟨cb, 2, none⟩ (.slice none 0 0)) := fr_setCell wr ⟨cb, 2, none⟩ _
  refine ⟨⟨h.below.trans ⟨hf.os, hf.tape, hf.output, hf.size, fun k hk => hf.block k (by omega) (fun e => by omega)⟩, h.cl.putM (ps := []) (Below.refl _ _) (fun p hp => by cases hp) (World.ownsRow_nil _ _ _ _) (by simp),
    M.pinv_sub h.inv (fun m hm => by cases hm), fun k hk => h.cls k ?_⟩, ⟨h.bd.r, fun m hm => by cases hm⟩⟩
  rcases hk with rfl | rfl | rfl | ⟨ad, e, _⟩ | hk
  · exact .inl rfl
  · exact .inr (.inl rfl)
  · exact .inr (.inr (.inl rfl))
  · cases e
  · exact .inr (.inr (.inr (.inr hk)))
/-- A replica is not about to crash any more. -/
theorem GoSt.calm (h : GoSt w wr cb x L g c) {i : Nat} (hi : i < 3) : GoSt w (wr.setCell ⟨L.sA, i * 4 + 3, none⟩ (.int .i64 0)) cb { x with s := x.s.set i { x.s.getD i M.zSt with stop := 0 } } L g c := by
  have hs := h.below.size
  have hsA := h.cls L.sA (.inr (.inr (.inl rfl)))
  have hsl : i < x.s.length := by rw [h.inv.sN]; exact hi
  have hf : Fr (fun k => k = L.sA) wr (wr.setCell ⟨L.sA, i * 4 + 3, none⟩ (.int .i64 0)) := fr_setCell wr ⟨L.sA, i * 4 + 3, none⟩ _
  refine ⟨⟨h.below.trans ⟨hf.os, hf.tape, hf.output, hf.size, fun k hk => hf.block k (by omega) (fun e => by omega)⟩, h.cl.putS hi 3 _ { x.s.getD i M.zSt with stop := 0 } (L.lv i) rfl rfl rfl (by decide),
    ⟨h.inv.inv, h.inv.rN, by simpa using h.inv.sN, fun j hj => ?_, h.inv.msg⟩, h.cls⟩, ⟨h.bd.r, h.bd.m⟩⟩
  show ((x.s.set i { x.s.getD i M.zSt with stop := 0 }).getD j M.zSt).hard = _ ∧ ((x.s.set i { x.s.getD i M.zSt with stop := 0 }).getD j M.zSt).log = _
  by_cases e : j = i
  · subst e; rw [M.getD_set_eq _ _ _ _ hsl]; exact h.inv.st j hj
  · rw [M.getD_set_ne _ _ _ (fun q => e q.symm)]; exact h.inv.st j hj
/-- Nothing is in flight any more, and nobody is about to crash. -/
theorem GoSt.quiet (h : GoSt w wr cb x L g c) (hs : x.sent = []) (h0 : ∀ i, i < 3 → (x.s.getD i M.zSt).stop = 0) : M.Quiet c x := ⟨⟨⟨g, h.inv⟩, h.wf, h0⟩, hs, h.bd⟩
/-- A turn of the law: what done and flow leave. -/
theorem LwSt.after {x2 : M.Cl} {g2 : M.Gh} {e : Ending} (h : LwSt w wr cb x L g) (P : M.PInv x2 g2) (hp : ClPost wr cb L x2 e w2) : e = .returned (.bool true) ∧ ∃ L', LwSt w w2 cb x2 L' g2 := by
  obtain ⟨L', rfl, hok, hcl, hF⟩ := hp
  have hs := h.below.size
  refine ⟨rfl, L', h.below.trans ⟨hF.os, hF.tape, hF.output, hF.size, fun k hk => hF.block k (by omega) (fun hc => by have := h.cls k hc; omega)⟩, hok, P, fun k hk => ?_⟩
  rcases Nat.lt_or_ge k wr.heap.size with q | q
  · exact h.cls k (hcl k q hk)
  · omega
end
end Go.Proofs.Ytodmihpmbecncaa
