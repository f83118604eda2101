/- One end of a stream: the plain law. A state as the reference keeps it; what each call answers; the invariant; numbers of 32 bits. -/
import Derived.Test.YthlhjaacjhlkhaaSegB
namespace Go.Proofs.Ythlhjaacjhlkhaa
set_option maxHeartbeats 400000
set_option linter.unusedVariables false
set_option linter.unusedSimpArgs false
structure Sm where
  st : Int
  iss : Int
  irs : Int
  said : List Int
  got : List Int
  rd : Nat
  una : Nat
  nxt : Nat
  top : Nat
  peer : Int
  shut : Bool
  fin : Bool
  due : Bool
  wait : Nat
  tries : Nat
namespace Sm
/-- How many bytes of said the other end has. -/
def acked (s : Sm) : Nat := min (s.una - 1) s.said.length
def out (s : Sm) : List Int := s.said.drop s.acked
def inn (s : Sm) : List Int := s.got.drop s.rd
def seqI (s : Sm) (n : Nat) : Int := (s.iss + n) % 4294967296
def awI (s : Sm) : Int := (s.irs + 1 + s.got.length + (if s.fin = true then 1 else 0)) % 4294967296
structure Ok (s : Sm) (m : Nat) : Prop where
  st0 : 1 ≤ s.st
  st5 : s.st ≤ 5
  iss : 0 ≤ s.iss ∧ s.iss < 4294967296
  irs : 0 ≤ s.irs ∧ s.irs < 4294967296
  said : s.said.length ≤ 64 * m
  got : s.got.length ≤ 64 * m
  room : s.said.length - s.acked ≤ 64
  rd : s.rd ≤ s.got.length
  rroom : s.got.length - s.rd ≤ 64
  un : s.una ≤ s.nxt
  nt : s.nxt ≤ s.top
  tl : s.top ≤ s.said.length + 2
  early : s.st ≤ 3 → s.una = 0 ∧ s.top ≤ 1 ∧ s.got = [] ∧ s.rd = 0 ∧ s.fin = false
  late : s.st = 4 → 1 ≤ s.una
  wait : s.wait ≤ 2
  tries : s.tries ≤ 7 ∧ (s.st ≤ 4 → s.tries ≤ 6)
  peer : 0 ≤ s.peer ∧ s.peer ≤ 255
  bs : Byt s.said
  bg : Byt s.got
def start (st iss : Int) : Sm := ⟨st, iss, 0, [], [], 0, 0, 0, 0, 0, false, false, false, 0, 0⟩
theorem start_ok {st iss : Int} (h : st = 1 ∨ st = 2) (hi : 0 ≤ iss ∧ iss < 4294967296) : Ok (start st iss) 0 :=
  ⟨by simp only [start]; omega, by simp only [start]; omega, hi, by simp [start], by simp [start], by simp [start], by simp [start], by simp [start], by simp [start], by simp [start], by simp [start], by simp [start], fun _ => by simp [start], fun h => by simp only [start] at h; omega, by simp [start], by simp [start], by simp [start], fun x hx => by simp [start] at hx, fun x hx => by simp [start] at hx⟩
/-! Given (Write) -/
def roomN (s : Sm) : Nat := 64 - (s.said.length - s.acked)
def givenE (s : Sm) (d : List Int) : Int := if 256 < d.length then 1 else if s.st = 5 then 10 else if s.st < 2 ∨ s.shut = true then 8 else if s.roomN = 0 ∧ 0 < d.length then 9 else 0
def givenN (s : Sm) (d : List Int) : Nat := min d.length s.roomN
def givenS (s : Sm) (d : List Int) : Sm := if givenE s d = 0 then { s with said := s.said ++ d.take (givenN s d) } else s
/-! Taken (Read) -/
def takenE (s : Sm) (n : Int) : Int := if n < 0 ∨ 256 < n then 1 else if s.st < 2 then 8 else if 0 < n ∧ s.inn.length = 0 ∧ s.fin = false then (if s.st = 5 then 10 else 9) else 0
def takenN (s : Sm) (n : Int) : Nat := min n.toNat s.inn.length
def takenV (s : Sm) (n : Int) : List Int := if takenE s n = 0 then s.inn.take (takenN s n) else []
def takenS (s : Sm) (n : Int) : Sm := if takenE s n = 0 then { s with rd := s.rd + takenN s n, due := s.due || (decide (0 < takenN s n) && decide (s.st = 4)) } else s
/-! Closed (Shut) -/
def closedE (s : Sm) : Int := if s.st < 2 ∨ 4 < s.st ∨ s.shut = true then 8 else 0
def closedS (s : Sm) : Sm := if closedE s = 0 then { s with shut := true } else s
/-! Ticked (Tick) -/
def tickedS (s : Sm) : Sm :=
  if s.st < 2 ∨ 4 < s.st ∨ s.una = s.nxt then s
  else if s.wait = 2 then (if s.tries = 6 then { s with wait := 0, tries := 7, st := 5 } else { s with wait := 0, tries := s.tries + 1, nxt := s.una })
  else { s with wait := s.wait + 1 }
/-! Told (Tell, Ended) -/
def allB (s : Sm) : Bool := s.shut && decide (s.una = s.said.length + 2) && decide (s.st = 4)
end Sm
/-- A segment. -/
structure Sg where
  seq : Int
  ack : Int
  flags : Int
  window : Int
  dat : List Int
namespace Sg
def syn (x : Sg) : Bool := decide (x.flags % 2 = 1)
def ac (x : Sg) : Bool := decide (x.flags / 2 % 2 = 1)
def fi (x : Sg) : Bool := decide (x.flags / 4 % 2 = 1)
def rs (x : Sg) : Bool := decide (x.flags / 8 % 2 = 1)
def span (x : Sg) : Nat := x.dat.length + (if x.syn = true then 1 else 0) + (if x.fi = true then 1 else 0)
structure Fine (x : Sg) : Prop where
  seq : 0 ≤ x.seq ∧ x.seq < 4294967296
  ack : 0 ≤ x.ack ∧ x.ack < 4294967296
  flags : 0 ≤ x.flags ∧ x.flags ≤ 15
  window : 0 ≤ x.window ∧ x.window ≤ 255
  len : x.dat.length ≤ 32
  byt : Byt x.dat
end Sg
namespace Sm
/-- The bytes of a segment, where they are awaited. -/
def dataS (s : Sm) (x : Sg) : Sm :=
  if x.span = 0 then s
  else if x.syn = false ∧ x.seq = s.awI ∧ s.fin = false ∧ s.inn.length + x.dat.length ≤ 64 then { s with due := true, got := s.got ++ x.dat, fin := x.fi } else { s with due := true }
def openS (s : Sm) (w : Int) : Sm := { s with st := 4, peer := w, una := 1, nxt := 1, wait := 0, tries := 0 }
def mineB (s : Sm) (x : Sg) : Bool := x.ac && decide (x.ack = s.seqI 1) && decide (s.top = 1)
def dI (s : Sm) (x : Sg) : Int := (x.ack - s.seqI s.una) % 4294967296
def answerS (s : Sm) (x : Sg) : Sm :=
  if x.ac = true ∧ s.dI x ≤ s.top - s.una then { s with tries := 0, peer := x.window, una := s.una + (s.dI x).toNat, wait := if 0 < s.dI x then 0 else s.wait, nxt := max s.nxt (s.una + (s.dI x).toNat) } else s
def cameS (s : Sm) (x : Sg) : Sm :=
  if s.st = 5 then s
  else if x.rs = true then (if 1 < s.st then { s with st := 5 } else s)
  else if s.st = 1 then (if x.syn = true ∧ x.ac = false then { s with st := 3, irs := x.seq, peer := x.window } else s)
  else if s.st = 2 then (if x.syn = true ∧ s.mineB x = true then openS { s with irs := x.seq, due := true } x.window else s)
  else if s.st = 3 then (if x.syn = true ∧ x.seq = s.irs then { s with nxt := 0 } else if s.mineB x = true ∧ x.syn = false then dataS (openS s x.window) x else s)
  else dataS (if x.syn = true then s else answerS s x) x
def cameE (s : Sm) (er : Int) : Int := if er ≠ 0 then er else if s.st = 5 then 8 else 0
/-! Outs (Out) -/
def winI (s : Sm) : Int := 64 - s.inn.length
def saySg (s : Sm) (flags : Int) (many : Nat) : Sg := ⟨s.seqI s.nxt, if 2 < s.st then s.awI else 0, if 2 < s.st then flags + 2 else flags, s.winI, (s.said.drop (s.nxt - 1)).take many⟩
/-- p: how many places. -/
def sayS (s : Sm) (p : Nat) : Sm := { s with nxt := s.nxt + p, top := max s.top (s.nxt + p), due := false }
def limitN (s : Sm) : Nat := min (s.acked + max s.peer.toNat 1) s.said.length
def loopO (lim : Nat) : Nat → Sm → List Sg × Sm
  | 0, s => ([], s)
  | f + 1, s => if s.nxt - 1 < lim then
      let n := min 32 (lim - (s.nxt - 1))
      let r := loopO lim f (s.sayS n)
      (s.saySg 0 n :: r.1, r.2)
    else ([], s)
def finO (s : Sm) : List Sg × Sm := if s.shut = true ∧ s.nxt - 1 = s.said.length then ([s.saySg 4 0], s.sayS 1) else ([], s)
def dueO (s : Sm) : List Sg × Sm := if s.due = true then ([s.saySg 0 0], s.sayS 0) else ([], s)
def synO (s : Sm) : List Sg × Sm := if (s.st = 2 ∨ s.st = 3) ∧ s.nxt = 0 then ([s.saySg 1 0], s.sayS 1) else ([], s)
def openO (s : Sm) : List Sg × Sm :=
  let a := loopO s.limitN 64 s
  let b := finO a.2
  let c := dueO b.2
  (a.1 ++ b.1 ++ c.1, c.2)
def outsO (s : Sm) : List Sg × Sm := if s.st = 4 then openO s else synO s
end Sm
end Go.Proofs.Ythlhjaacjhlkhaa
