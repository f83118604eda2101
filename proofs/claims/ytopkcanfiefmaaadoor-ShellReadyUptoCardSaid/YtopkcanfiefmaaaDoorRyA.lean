/- A command made ready, plain. -/
import Derived.Test.YtopkcanfiefmaaaDoorExD
namespace Go.Proofs.YtopkcanfiefmaaaDoor
open Go.RowKit
set_option maxHeartbeats 400000
set_option linter.unusedVariables false
set_option linter.unusedSimpArgs false
/-- A token as it lies in memory. -/
structure Tk where
  op : ByteArray
  A : Option Addr
  n : Nat
  c : Nat
  kk : Int
  ps : List Pt
def Tk.zero : Tk := ⟨ByteArray.empty, none, 0, 0, 0, []⟩
def Tk.cells (t : Tk) : List Value := [.string t.op, .slice t.A t.n t.c, .int .i64 t.kk]
structure Tk.Ok (w : World) (B : Nat) (t : Tk) : Prop where
  parts : RS Pt.cells 3 w B t.A t.n t.ps
  fewp : t.n ≤ 1048576
  smallp : ∀ p ∈ t.ps, p.text.size ≤ 1048576
  opn : t.op.size ≤ 1048576
theorem Tk.Ok.below {w w' : World} {B B' : Nat} {t : Tk} (h : t.Ok w B) (hb : Below B' w w') (hB : B ≤ B') : t.Ok w' B := ⟨h.parts.below' hb hB, h.fewp, h.smallp, h.opn⟩
structure Rd where
  kind : ByteArray
  tk : Tk
def Rd.zero : Rd := ⟨ByteArray.empty, Tk.zero⟩
def Rd.cells (r : Rd) : List Value := [.string r.kind, .string r.tk.op, .slice r.tk.A r.tk.n r.tk.c, .int .i64 r.tk.kk]
/-- What is made ready. -/
structure Sm where
  args : List ByteArray
  inp : ByteArray
  out : ByteArray
  more : Bool
def Sm.zero : Sm := ⟨[], ByteArray.empty, ByteArray.empty, false⟩
def Sm.more_ (s : Sm) (l : List ByteArray) : Sm := ⟨s.args ++ l, s.inp, s.out, s.more⟩
def Sm.redir (s : Sm) (kind f : ByteArray) : Sm :=
  if kind.toList = [60] then ⟨s.args, f, s.out, s.more⟩ else if kind.toList = [62] then ⟨s.args, s.inp, f, false⟩ else if kind.toList = [62, 62] then ⟨s.args, s.inp, f, true⟩ else s
def wordsS (T : ByteArray) (vars : List Vr) : Sm → List Tk → Sm × Int
  | s, [] => (s, 0)
  | s, t :: r => if (expandS T t.op t.ps vars).2 ≠ 0 then (Sm.zero, (expandS T t.op t.ps vars).2) else wordsS T vars (s.more_ (expandS T t.op t.ps vars).1) r
def redirS (T : ByteArray) (vars : List Vr) : Sm → List Rd → Sm × Int
  | s, [] => (s, 0)
  | s, r :: l => if (expandS T r.tk.op r.tk.ps vars).2 ≠ 0 then (Sm.zero, (expandS T r.tk.op r.tk.ps vars).2) else
    if (expandS T r.tk.op r.tk.ps vars).1.length ≠ 1 ∨ ((expandS T r.tk.op r.tk.ps vars).1.getD 0 ByteArray.empty).size = 0 then (Sm.zero, 3) else
    redirS T vars (s.redir r.kind ((expandS T r.tk.op r.tk.ps vars).1.getD 0 ByteArray.empty)) l
def lastS (s : Sm) : Sm × Int := if s.args.length = 0 then (Sm.zero, 3) else (s, 0)
/-- Words from s on, then redirections. -/
def readyW (T : ByteArray) (vars : List Vr) (s : Sm) (ws : List Tk) (rs : List Rd) : Sm × Int :=
  if (wordsS T vars s ws).2 ≠ 0 then wordsS T vars s ws else
  if (redirS T vars (wordsS T vars s ws).1 rs).2 ≠ 0 then redirS T vars (wordsS T vars s ws).1 rs else lastS (redirS T vars (wordsS T vars s ws).1 rs).1
def readyR (T : ByteArray) (vars : List Vr) (s : Sm) (rs : List Rd) : Sm × Int :=
  if (redirS T vars s rs).2 ≠ 0 then redirS T vars s rs else lastS (redirS T vars s rs).1
theorem readyW_nil (T : ByteArray) (vars : List Vr) (s : Sm) (rs : List Rd) : readyW T vars s [] rs = readyR T vars s rs := by
  unfold readyW readyR; rw [if_neg (by simp [wordsS])]; rfl
theorem readyR_nil (T : ByteArray) (vars : List Vr) (s : Sm) : readyR T vars s [] = lastS s := by
  unfold readyR; rw [if_neg (by simp [redirS])]; rfl
theorem readyW_err {T : ByteArray} {vars : List Vr} {s : Sm} {t : Tk} {r : List Tk} {rs : List Rd} {x : List ByteArray} {e : Int} (h : expandS T t.op t.ps vars = (x, e)) (he : e ≠ 0) : readyW T vars s (t :: r) rs = (Sm.zero, e) := by
  have h2 : wordsS T vars s (t :: r) = (Sm.zero, e) := by unfold wordsS; rw [h]; exact if_pos he
  unfold readyW
  rw [h2]; exact if_pos he
theorem readyW_step {T : ByteArray} {vars : List Vr} {s : Sm} {t : Tk} {r : List Tk} {rs : List Rd} {x : List ByteArray} (h : expandS T t.op t.ps vars = (x, 0)) : readyW T vars s (t :: r) rs = readyW T vars (s.more_ x) r rs := by
  have h2 : wordsS T vars s (t :: r) = wordsS T vars (s.more_ x) r := by rw [wordsS, h]; exact if_neg (fun h => h rfl)
  unfold readyW
  rw [h2]
theorem readyR_err {T : ByteArray} {vars : List Vr} {s : Sm} {r : Rd} {l : List Rd} {x : List ByteArray} {e : Int} (h : expandS T r.tk.op r.tk.ps vars = (x, e)) (he : e ≠ 0) : readyR T vars s (r :: l) = (Sm.zero, e) := by
  have h2 : redirS T vars s (r :: l) = (Sm.zero, e) := by unfold redirS; rw [h]; exact if_pos he
  unfold readyR
  rw [h2]; exact if_pos he
theorem readyR_form {T : ByteArray} {vars : List Vr} {s : Sm} {r : Rd} {l : List Rd} {x : List ByteArray} (h : expandS T r.tk.op r.tk.ps vars = (x, 0)) (he : x.length ≠ 1 ∨ (x.getD 0 ByteArray.empty).size = 0) : readyR T vars s (r :: l) = (Sm.zero, 3) := by
  have h2 : redirS T vars s (r :: l) = (Sm.zero, 3) := by rw [redirS, h]; exact (if_neg (fun h => h rfl)).trans (if_pos he)
  unfold readyR
  rw [h2]; exact if_pos (by decide)
theorem readyR_step {T : ByteArray} {vars : List Vr} {s : Sm} {r : Rd} {l : List Rd} {f : ByteArray} (h : expandS T r.tk.op r.tk.ps vars = ([f], 0)) (he : f.size ≠ 0) : readyR T vars s (r :: l) = readyR T vars (s.redir r.kind f) l := by
  have h2 : redirS T vars s (r :: l) = redirS T vars (s.redir r.kind f) l := by rw [redirS, h]; exact (if_neg (fun h => h rfl)).trans (if_neg (by simpa using he))
  unfold readyR
  rw [h2]
theorem expandS_few (T op : ByteArray) (ps : List Pt) (vars : List Vr) : (expandS T op ps vars).1.length ≤ 40 := by
  unfold expandS
  repeat' split
  · simp
  · simp
  · simp
  · simp only; omega
end Go.Proofs.YtopkcanfiefmaaaDoor
