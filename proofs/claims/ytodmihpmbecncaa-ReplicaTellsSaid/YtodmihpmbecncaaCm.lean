/-
  The cluster of law 08 as plain functions on plain data: three replicas, what they have stored, messages in flight. No condition; no program in it.
-/
import Derived.Test.YtodmihpmbecncaaPa
namespace Go.Proofs.Ytodmihpmbecncaa
namespace M
structure St where
  hard : Hard
  log : List Rec
  stop : Int
structure Cl where
  r : List Rep
  s : List St
  sent : List Msg
structure Op where
  what : Int
  who : Int
  n : Int
  data : ByteArray

def pick (n m : Int) : Int := if m < 1 then 0 else n % m
def zSt : St := ⟨⟨0, 0⟩, [], 0⟩
def zRep : Rep := ⟨0, ⟨0, 0⟩, [], 0, 0, [], [], []⟩
/-- A replica as New makes it of what is stored. -/
def made (i : Nat) (s : St) : Rep := ⟨i, s.hard, s.log, 0, 0, [false, false, false], [0, 0, 0], [0, 0, 0]⟩
def begin_ : Cl :=
  ⟨[made 0 ⟨⟨0, -1⟩, [], 0⟩, made 1 ⟨⟨0, -1⟩, [], 0⟩, made 2 ⟨⟨0, -1⟩, [], 0⟩], [⟨⟨0, -1⟩, [], 0⟩, ⟨⟨0, -1⟩, [], 0⟩, ⟨⟨0, -1⟩, [], 0⟩], []⟩
def start (x : Cl) (i : Nat) : Cl :=
  { x with s := x.s.set i { x.s.getD i zSt with stop := 0 }, r := x.r.set i (made i (x.s.getD i zSt)) }
/-- What is stored when a result is stored. -/
def kept (s : St) (o : Out) : St :=
  { s with hard := if o.save then o.hard else s.hard, log := if 0 < o.fr then s.log.take (min (o.fr - 1) s.log.length).toNat ++ o.recs else s.log }
def done (x : Cl) (i : Nat) (o : Out) : Cl :=
  if (x.s.getD i zSt).stop = 1 then start x i
  else
    let x1 := { x with s := x.s.set i (kept (x.s.getD i zSt) o) }
    if (x.s.getD i zSt).stop = 2 then start x1 i
    else { x1 with sent := x.sent ++ o.send.take (300 - x.sent.length) }
def arrive (x : Cl) (n : Int) (keep : Bool) : Cl :=
  if x.sent.length = 0 then x
  else
    let k := (pick n x.sent.length).toNat
    let m := x.sent.getD k zMsg
    let x1 := if keep then x else { x with sent := x.sent.take k ++ x.sent.drop (k + 1) }
    let i := (pick m.to 3).toNat
    done { x1 with r := x1.r.set i (hear (x1.r.getD i zRep) m).1 } i (hear (x1.r.getD i zRep) m).2
def step (x : Cl) (o : Op) : Cl :=
  let i := (pick o.who 3).toNat
  let d := o.what % 16
  if d = 8 then
    if 0 < x.sent.length then { x with sent := x.sent.take (pick o.n x.sent.length).toNat ++ x.sent.drop ((pick o.n x.sent.length).toNat + 1) } else x
  else if d = 9 then arrive x o.n true
  else if d = 10 ∨ d = 11 then done { x with r := x.r.set i (tick (x.r.getD i zRep)).1 } i (tick (x.r.getD i zRep)).2
  else if d = 12 ∨ d = 13 then done { x with r := x.r.set i (propose (x.r.getD i zRep) o.data).1 } i (propose (x.r.getD i zRep) o.data).2.2.2
  else if d = 14 then start x i
  else if d = 15 then { x with s := x.s.set i { x.s.getD i zSt with stop := 1 + o.n % 2 } }
  else arrive x o.n false

/-- A leader's term is not 0. -/
def LT (r : Rep) : Prop := r.role ≠ 0 → 1 ≤ r.hard.term
end M
end Go.Proofs.Ytodmihpmbecncaa
