/-
  The replica of layer 8 as plain functions on plain data: what each Go function of package replica computes. No condition; no program and no memory in it.
-/
namespace Go.Proofs.Ytodmihpmbecncaa

structure Rec where
  term : Int
  data : ByteArray
deriving DecidableEq

structure Hard where
  term : Int
  vote : Int
deriving DecidableEq

structure Msg where
  kind : Int
  fr : Int
  to : Int
  term : Int
  index : Int
  prev : Int
  commit : Int
  yes : Bool
  recs : List Rec

structure Out where
  save : Bool
  hard : Hard
  fr : Int
  recs : List Rec
  send : List Msg

/-- A replica: what the struct of package replica holds. -/
structure Rep where
  id : Int
  hard : Hard
  log : List Rec
  role : Int
  commit : Int
  votes : List Bool
  next : List Int
  mtch : List Int

namespace M
def zRec : Rec := ⟨0, ⟨#[]⟩⟩
def noOut : Out := ⟨false, ⟨0, 0⟩, 0, [], []⟩
def zMsg : Msg := ⟨0, 0, 0, 0, 0, 0, 0, false, []⟩

/-- The term of entry n; 0 for the number 0. -/
def tm (l : List Rec) (n : Int) : Int := if n = 0 then 0 else (l.getD (n - 1).toNat zRec).term

def between (n a b : Int) : Bool := decide (a ≤ n) && decide (n ≤ b)

def sound : List Rec → Int → Int → Bool
  | [], _, _ => true
  | x :: xs, least, most => if x.term < least ∨ most < x.term ∨ 2000 < x.data.size then false else sound xs x.term most

def others (id : Int) : List Int := if id = 0 then [1, 2] else if id = 1 then [0, 2] else [0, 1]

def new (id : Int) (h : Hard) (log : List Rec) : Option Rep :=
  if between id 0 2 && between h.term 0 1099511627776 && between h.vote (-1) 2 && decide (log.length ≤ 4000) && sound log 1 h.term then
    some ⟨id, h, log, 0, 0, [false, false, false], [0, 0, 0], [0, 0, 0]⟩
  else none

def message (r : Rep) (kind to : Int) : Msg := ⟨kind, r.id, to, r.hard.term, 0, 0, 0, false, []⟩

def entries (r : Rep) (to : Int) : Msg :=
  let i := r.next.getD to.toNat 0 - 1
  { message r 2 to with index := i, prev := tm r.log i, commit := r.commit, recs := (r.log.drop i.toNat).take 8 }

def all (r : Rep) : List Msg := (others r.id).map (entries r)

def askOf (r : Rep) (i : Int) : Msg := { message r 0 i with index := r.log.length, prev := tm r.log r.log.length }

def tick (r : Rep) : Rep × Out :=
  if r.role = 2 then (r, { noOut with send := all r })
  else if r.hard.term = 1099511627776 then (r, noOut)
  else
    let r1 := { r with hard := ⟨r.hard.term + 1, r.id⟩, role := 1, votes := [false, false, false].set r.id.toNat true }
    (r1, { noOut with save := true, hard := r1.hard, send := (others r1.id).map (askOf r1) })

def right (r : Rep) (m : Msg) : Bool :=
  between m.kind 0 3 && decide (m.to = r.id) && decide (m.fr ≠ r.id) && between m.fr 0 2 &&
  between m.term 1 1099511627776 && between m.index 0 4000 && between m.prev 0 m.term && !(decide (m.index = 0) && decide (m.prev ≠ 0)) &&
  between m.commit 0 4000 && decide (m.recs.length ≤ 8) && decide (m.index + m.recs.length ≤ 4000) && sound m.recs (max 1 m.prev) m.term

def answer (m : Msg) : Out := { noOut with send := [m] }

def fresh (r : Rep) (m : Msg) : Bool := decide (tm r.log r.log.length < m.prev) || (decide (m.prev = tm r.log r.log.length) && decide ((r.log.length : Int) ≤ m.index))

def vote (r : Rep) (m : Msg) : Rep × Out :=
  let a := message r 1 m.fr
  if m.term = r.hard.term ∧ (r.hard.vote = -1 ∨ r.hard.vote = m.fr) ∧ fresh r m = true then ({ r with hard := ⟨r.hard.term, m.fr⟩ }, answer { a with yes := true })
  else (r, answer a)

def count (l : List Bool) : Nat := l.countP (fun b => b)

def voted (r : Rep) (m : Msg) : Rep × Out :=
  if r.role ≠ 1 ∨ m.term ≠ r.hard.term ∨ m.yes = false then (r, noOut)
  else
    let r1 := { r with votes := r.votes.set m.fr.toNat true }
    if count r1.votes < 2 then (r1, noOut)
    else
      let r2 := { r1 with role := 2, next := [(r.log.length : Int) + 1, (r.log.length : Int) + 1, (r.log.length : Int) + 1], mtch := [0, 0, 0] }
      (r2, { noOut with send := all r2 })

/-- How many of the entries recs, the first of which has the number i + 1, stand in the log. -/
def agree (l : List Rec) : Int → List Rec → Nat
  | _, [] => 0
  | i, x :: xs => if i + 1 ≤ l.length ∧ tm l (i + 1) = x.term then agree l (i + 1) xs + 1 else 0

def append (r : Rep) (m : Msg) : Rep × Out :=
  let a := message r 3 m.fr
  if m.term < r.hard.term then (r, answer a)
  else if r.role = 2 then (r, noOut)
  else
    let r1 := { r with role := 0 }
    if (r.log.length : Int) < m.index ∨ tm r.log m.index ≠ m.prev then (r1, answer { a with index := min (r.log.length : Int) (m.index - 1) })
    else
      let k := agree r.log m.index m.recs
      let i := m.index + k + 1
      let n := m.index + m.recs.length
      if k < m.recs.length then
        if i ≤ r.commit then (r1, noOut)
        else ({ r1 with log := r.log.take (i - 1).toNat ++ m.recs.drop k, commit := max r.commit (min m.commit n) },
          { noOut with fr := i, recs := m.recs.drop k, send := [{ a with yes := true, index := n }] })
      else ({ r1 with commit := max r.commit (min m.commit n) }, answer { a with yes := true, index := n })

def advance (r : Rep) : Rep :=
  let most := (others r.id).foldl (fun t i => max t (r.mtch.getD i.toNat 0)) 0
  if r.commit < most ∧ tm r.log most = r.hard.term then { r with commit := most } else r

def appended (r : Rep) (m : Msg) : Rep × Out :=
  if r.role ≠ 2 ∨ m.term ≠ r.hard.term ∨ (m.yes = true ∧ (r.log.length : Int) < m.index) then (r, noOut)
  else
    let j := m.fr.toNat
    if m.yes = false then
      let r1 := { r with next := r.next.set j (max (r.mtch.getD j 0 + 1) (min (r.next.getD j 0 - 1) (m.index + 1))) }
      (r1, answer (entries r1 m.fr))
    else
      let t := max (r.mtch.getD j 0) m.index
      let r1 := advance { r with mtch := r.mtch.set j t, next := r.next.set j (t + 1) }
      if t + 1 ≤ r1.log.length then (r1, answer (entries r1 m.fr)) else (r1, noOut)

def hear (r : Rep) (m : Msg) : Rep × Out :=
  if right r m = false then (r, noOut)
  else
    let r1 := if r.hard.term < m.term then { r with hard := ⟨m.term, -1⟩, role := 0 } else r
    let (r2, o) := if m.kind = 0 then vote r1 m else if m.kind = 1 then voted r1 m else if m.kind = 2 then append r1 m else appended r1 m
    (r2, if r2.hard ≠ r.hard then { o with save := true, hard := r2.hard } else o)

def propose (r : Rep) (data : ByteArray) : Rep × Int × Int × Out :=
  if r.role ≠ 2 then (r, 0, 24, noOut)
  else if 2000 < data.size then (r, 0, 1, noOut)
  else if r.log.length = 4000 then (r, 0, 6, noOut)
  else
    let x : Rec := ⟨r.hard.term, data⟩
    let r1 := { r with log := r.log ++ [x] }
    (r1, r1.log.length, 0, { noOut with fr := r1.log.length, recs := [x], send := all r1 })

/-- What holds of each replica that New made and that was only ticked, told and proposed to. -/
structure WF (r : Rep) : Prop where
  id0 : 0 ≤ r.id
  id2 : r.id ≤ 2
  term0 : 0 ≤ r.hard.term
  termM : r.hard.term ≤ 1099511627776
  vote0 : -1 ≤ r.hard.vote
  vote2 : r.hard.vote ≤ 2
  len : r.log.length ≤ 4000
  logOk : sound r.log 1 r.hard.term = true
  role0 : 0 ≤ r.role
  role2 : r.role ≤ 2
  commit0 : 0 ≤ r.commit
  commitN : r.commit ≤ r.log.length
  votesN : r.votes.length = 3
  nextN : r.next.length = 3
  mtchN : r.mtch.length = 3
  nexts : r.role = 2 → ∀ j : Nat, j < 3 → 1 ≤ r.next.getD j 0 ∧ r.next.getD j 0 ≤ r.log.length + 1
  mtchs : r.role = 2 → ∀ j : Nat, j < 3 → 0 ≤ r.mtch.getD j 0 ∧ r.mtch.getD j 0 ≤ r.log.length
theorem sound_mono : ∀ (l : List Rec) (a m m' : Int), m ≤ m' → sound l a m = true → sound l a m' = true
  | [], _, _, _, _, _ => rfl
  | x :: l, a, m, m', h, hs => by
    unfold sound at hs ⊢
    by_cases hc : x.term < a ∨ m < x.term ∨ 2000 < x.data.size
    · rw [if_pos hc] at hs; cases hs
    · rw [if_neg hc] at hs
      rw [if_neg (by omega)]
      exact sound_mono l _ m m' h hs
theorem WF.ask {r : Rep} (h : WF r) (ht : r.hard.term ≠ 1099511627776) (v : List Bool) (hv : v.length = 3) : WF { r with hard := ⟨r.hard.term + 1, r.id⟩, role := 1, votes := v } :=
  { h with
    term0 := by have := h.term0; show 0 ≤ r.hard.term + 1; omega
    termM := by have := h.termM; show r.hard.term + 1 ≤ _; omega
    vote0 := by have := h.id0; show -1 ≤ r.id; omega
    vote2 := h.id2
    logOk := sound_mono _ _ _ _ (by show r.hard.term ≤ r.hard.term + 1; omega) h.logOk
    role0 := by show (0 : Int) ≤ 1; omega
    role2 := by show (1 : Int) ≤ 2; omega
    votesN := hv
    nexts := fun (e : (1 : Int) = 2) => absurd e (by decide)
    mtchs := fun (e : (1 : Int) = 2) => absurd e (by decide) }
end M
end Go.Proofs.Ytodmihpmbecncaa
