/- Plans of pipes, as functions: descriptors, steps, what a child does, the whole plan. -/
import Derived.Test.YtjeclmkdojnflaaOwn
namespace Go.Proofs.Ytjeclmkdojnflaa
open Go.RowKit
set_option maxHeartbeats 400000
set_option linter.unusedVariables false
set_option linter.unusedSimpArgs false
/-- Which descriptors there are. -/
abbrev Fds := Int → Bool
def up (S : Fds) (x : Int) (v : Bool) : Fds := fun z => if z = x then v else S z
theorem up_same (S : Fds) (x : Int) (v : Bool) : up S x v x = v := by simp [up]
theorem up_other (S : Fds) {x z : Int} (h : z ≠ x) (v : Bool) : up S x v z = S z := by simp [up, h]
/-- None outside 0 to 7. -/
def Low (S : Fds) : Prop := ∀ z, S z = true → 0 ≤ z ∧ z < 8
theorem Low.up {S : Fds} (h : Low S) {x : Int} (hx : 0 ≤ x ∧ x < 8) (v : Bool) : Low (up S x v) := by
  intro z hz
  by_cases e : z = x
  · subst e; exact hx
  · rw [up_other S e] at hz; exact h z hz
theorem Low.off {S : Fds} (h : Low S) (x : Int) : Low (Ytjeclmkdojnflaa.up S x false) := by
  intro z hz
  by_cases e : z = x
  · subst e; rw [up_same] at hz; cases hz
  · rw [up_other S e] at hz; exact h z hz
/-- How many are free. -/
def cnt (S : Fds) : Nat := (if S 0 then 0 else 1) + (if S 1 then 0 else 1) + (if S 2 then 0 else 1) + (if S 3 then 0 else 1) + (if S 4 then 0 else 1) + (if S 5 then 0 else 1) + (if S 6 then 0 else 1) + (if S 7 then 0 else 1)
theorem low_cases {x : Int} (hx : 0 ≤ x ∧ x < 8) : x = 0 ∨ x = 1 ∨ x = 2 ∨ x = 3 ∨ x = 4 ∨ x = 5 ∨ x = 6 ∨ x = 7 := by omega
theorem cnt_take {S : Fds} {x : Int} (hx : 0 ≤ x ∧ x < 8) (h : S x = false) : cnt (up S x true) + 1 = cnt S := by
  rcases low_cases hx with rfl | rfl | rfl | rfl | rfl | rfl | rfl | rfl <;> simp [cnt, up, h] <;> omega
theorem cnt_same {S : Fds} {x : Int} (hx : 0 ≤ x ∧ x < 8) (h : S x = true) : cnt (up S x true) = cnt S := by
  rcases low_cases hx with rfl | rfl | rfl | rfl | rfl | rfl | rfl | rfl <;> simp [cnt, up, h]
theorem cnt_free {S : Fds} {x : Int} (hx : 0 ≤ x ∧ x < 8) (h : S x = true) : cnt (up S x false) = cnt S + 1 := by
  rcases low_cases hx with rfl | rfl | rfl | rfl | rfl | rfl | rfl | rfl <;> simp [cnt, up, h] <;> omega
/-- The least that is free. -/
def lst (S : Fds) : Int := if S 0 = false then 0 else if S 1 = false then 1 else if S 2 = false then 2 else if S 3 = false then 3 else if S 4 = false then 4 else if S 5 = false then 5 else if S 6 = false then 6 else if S 7 = false then 7 else -1
theorem lst_at {S : Fds} {x : Int} (hx : 0 ≤ x ∧ x < 8) (h : S x = false) (hb : ∀ j, 0 ≤ j → j < x → S j = true) : lst S = x := by
  have h0 := hb 0 (by omega)
  have h1 := hb 1 (by omega)
  have h2 := hb 2 (by omega)
  have h3 := hb 3 (by omega)
  have h4 := hb 4 (by omega)
  have h5 := hb 5 (by omega)
  have h6 := hb 6 (by omega)
  rcases low_cases hx with rfl | rfl | rfl | rfl | rfl | rfl | rfl | rfl <;> simp [lst, *]
theorem lst_none {S : Fds} (hb : ∀ j, 0 ≤ j → j < 8 → S j = true) : lst S = -1 := by
  simp [lst, hb 0 (by omega) (by omega), hb 1 (by omega) (by omega), hb 2 (by omega) (by omega), hb 3 (by omega) (by omega), hb 4 (by omega) (by omega), hb 5 (by omega) (by omega), hb 6 (by omega) (by omega), hb 7 (by omega) (by omega)]
theorem lst_is {S : Fds} (h : 1 ≤ cnt S) : 0 ≤ lst S ∧ lst S < 8 ∧ S (lst S) = false ∧ ∀ j, 0 ≤ j → j < lst S → S j = true := by
  by_cases h0 : S 0 = false
  · have e : lst S = 0 := by simp [lst, h0]
    rw [e]; exact ⟨by omega, by omega, h0, fun j a b => by omega⟩
  by_cases h1 : S 1 = false
  · have e : lst S = 1 := by simp [lst, h0, h1]
    rw [e]; exact ⟨by omega, by omega, h1, fun j a b => by rcases (by omega : j = 0 ∨ j = 0) with rfl | rfl <;> simp_all⟩
  by_cases h2 : S 2 = false
  · have e : lst S = 2 := by simp [lst, h0, h1, h2]
    rw [e]; exact ⟨by omega, by omega, h2, fun j a b => by rcases (by omega : j = 0 ∨ j = 1) with rfl | rfl <;> simp_all⟩
  by_cases h3 : S 3 = false
  · have e : lst S = 3 := by simp [lst, h0, h1, h2, h3]
    rw [e]; exact ⟨by omega, by omega, h3, fun j a b => by rcases (by omega : j = 0 ∨ j = 1 ∨ j = 2) with rfl | rfl | rfl <;> simp_all⟩
  by_cases h4 : S 4 = false
  · have e : lst S = 4 := by simp [lst, h0, h1, h2, h3, h4]
    rw [e]; exact ⟨by omega, by omega, h4, fun j a b => by rcases (by omega : j = 0 ∨ j = 1 ∨ j = 2 ∨ j = 3) with rfl | rfl | rfl | rfl <;> simp_all⟩
  by_cases h5 : S 5 = false
  · have e : lst S = 5 := by simp [lst, h0, h1, h2, h3, h4, h5]
    rw [e]; exact ⟨by omega, by omega, h5, fun j a b => by rcases (by omega : j = 0 ∨ j = 1 ∨ j = 2 ∨ j = 3 ∨ j = 4) with rfl | rfl | rfl | rfl | rfl <;> simp_all⟩
  by_cases h6 : S 6 = false
  · have e : lst S = 6 := by simp [lst, h0, h1, h2, h3, h4, h5, h6]
    rw [e]; exact ⟨by omega, by omega, h6, fun j a b => by rcases (by omega : j = 0 ∨ j = 1 ∨ j = 2 ∨ j = 3 ∨ j = 4 ∨ j = 5) with rfl | rfl | rfl | rfl | rfl | rfl <;> simp_all⟩
  by_cases h7 : S 7 = false
  · have e : lst S = 7 := by simp [lst, h0, h1, h2, h3, h4, h5, h6, h7]
    rw [e]; exact ⟨by omega, by omega, h7, fun j a b => by rcases (by omega : j = 0 ∨ j = 1 ∨ j = 2 ∨ j = 3 ∨ j = 4 ∨ j = 5 ∨ j = 6) with rfl | rfl | rfl | rfl | rfl | rfl | rfl <;> simp_all⟩
  · simp [cnt, h0, h1, h2, h3, h4, h5, h6, h7] at h
/-- A step of a plan. -/
structure Stp where
  who : Int
  num : Int
  a : Int
  b : Int
  c : Int
  s : ByteArray
def Stp.cells (t : Stp) : List Value := [.int .i64 t.who, .int .i64 t.num, .int .i64 t.a, .int .i64 t.b, .int .i64 t.c, .string t.s, .string ByteArray.empty, .slice none 0 0]
/-- A command. -/
structure Smp where
  n : Nat
  a0 : ByteArray
  sin : ByteArray
  sout : ByteArray
  more : Bool
/-- Descriptors and steps. -/
abbrev Pst := Fds × List Stp
def stp (who num a b : Int) : Stp := ⟨who, num, a, b, 0, ByteArray.empty⟩
def shutF (me n : Int) (q : Pst) : Pst := if 0 ≤ n ∧ q.1 n = true then (up q.1 n false, q.2 ++ [stp me 6 n 0]) else q
def turnF (me fr to : Int) (q : Pst) : Pst := if fr < 0 ∨ fr = to then q else shutF me fr (up q.1 to true, q.2 ++ [stp me 11 fr to])
def openF (me : Int) (name : ByteArray) (mode flags : Int) (q : Pst) : Pst := (q.1, q.2 ++ [⟨me, 5, mode, flags, if flags = 0 then 0 else 438, name⟩])
def takeF (q : Pst) : Pst := (up q.1 (lst q.1) true, q.2)
def fileF (me : Int) (name : ByteArray) (to mode flags : Int) (q : Pst) : Pst :=
  turnF me (lst (shutF me to q).1) to (takeF (openF me name mode flags (shutF me to q)))
def linkF (me : Int) (inn out other : Int) (q : Pst) : Pst := turnF me out 1 (turnF me inn 0 (shutF me other q))
def inF (me : Int) (s : Smp) (q : Pst) : Pst := if s.sin.size = 0 then q else fileF me s.sin 0 1 0 q
def outF (me : Int) (s : Smp) (q : Pst) : Pst := if s.sout.size = 0 then q else fileF me s.sout 1 2 (if s.more then 9 else 5) q
def childF (me : Int) (s : Smp) (inn out other : Int) (q : Pst) : Pst :=
  ((outF me s (inF me s (linkF me inn out other q))).1, (outF me s (inF me s (linkF me inn out other q))).2 ++ [⟨me, 3, 0, 0, 0, s.a0⟩])
theorem shutF_low {me n : Int} {q : Pst} (h : Low q.1) : Low (shutF me n q).1 := by
  unfold shutF
  split
  · exact h.off n
  · exact h
theorem shutF_len (me n : Int) (q : Pst) : (shutF me n q).2.length ≤ q.2.length + 1 := by
  unfold shutF
  split <;> simp
theorem turnF_low {me fr to : Int} {q : Pst} (h : Low q.1) (ht : 0 ≤ to ∧ to < 8) : Low (turnF me fr to q).1 := by
  unfold turnF
  split
  · exact h
  · exact shutF_low (h.up ht true)
theorem turnF_len (me fr to : Int) (q : Pst) : (turnF me fr to q).2.length ≤ q.2.length + 2 := by
  unfold turnF
  split
  · omega
  · have := shutF_len me fr (up q.1 to true, q.2 ++ [stp me 11 fr to])
    simp at this
    omega
/-- Behind 'shut to' there is one that is free. -/
theorem shutF_cnt {me to : Int} {q : Pst} (ht : 0 ≤ to ∧ to < 8) : 1 ≤ cnt (shutF me to q).1 := by
  have h : (shutF me to q).1 to = false := by
    unfold shutF
    split
    · exact up_same _ _ _
    · rename_i h
      simpa using fun e => h ⟨ht.1, e⟩
  have := cnt_take ht h
  omega
theorem takeF_low {q : Pst} (h : Low q.1) (hc : 1 ≤ cnt q.1) : Low (takeF q).1 := h.up ⟨(lst_is hc).1, (lst_is hc).2.1⟩ true
theorem fileF_low {me : Int} {name : ByteArray} {to mode flags : Int} {q : Pst} (h : Low q.1) (ht : 0 ≤ to ∧ to < 8) : Low (fileF me name to mode flags q).1 :=
  turnF_low (takeF_low (q := openF me name mode flags (shutF me to q)) (shutF_low h) (shutF_cnt ht)) ht
theorem fileF_len (me : Int) (name : ByteArray) (to mode flags : Int) (q : Pst) : (fileF me name to mode flags q).2.length ≤ q.2.length + 4 := by
  have h1 := turnF_len me (lst (shutF me to q).1) to (takeF (openF me name mode flags (shutF me to q)))
  have h2 := shutF_len me to q
  have h4 : (takeF (openF me name mode flags (shutF me to q))).2.length = (shutF me to q).2.length + 1 := by simp [takeF, openF]
  show (turnF me (lst (shutF me to q).1) to (takeF (openF me name mode flags (shutF me to q)))).2.length ≤ _
  omega
theorem linkF_low {me inn out other : Int} {q : Pst} (h : Low q.1) : Low (linkF me inn out other q).1 := turnF_low (turnF_low (shutF_low h) (by omega)) (by omega)
theorem linkF_len (me inn out other : Int) (q : Pst) : (linkF me inn out other q).2.length ≤ q.2.length + 5 := by
  have h1 := turnF_len me out 1 (turnF me inn 0 (shutF me other q))
  have h2 := turnF_len me inn 0 (shutF me other q)
  have h3 := shutF_len me other q
  unfold linkF
  omega
theorem inF_low {me : Int} {s : Smp} {q : Pst} (h : Low q.1) : Low (inF me s q).1 := by
  unfold inF
  split
  · exact h
  · exact fileF_low h (by omega)
theorem inF_len (me : Int) (s : Smp) (q : Pst) : (inF me s q).2.length ≤ q.2.length + 4 := by
  unfold inF
  split
  · omega
  · exact fileF_len _ _ _ _ _ _
theorem outF_low {me : Int} {s : Smp} {q : Pst} (h : Low q.1) : Low (outF me s q).1 := by
  unfold outF
  split
  · exact h
  · exact fileF_low h (by omega)
theorem outF_len (me : Int) (s : Smp) (q : Pst) : (outF me s q).2.length ≤ q.2.length + 4 := by
  unfold outF
  split
  · omega
  · exact fileF_len _ _ _ _ _ _
theorem childF_len (me : Int) (s : Smp) (inn out other : Int) (q : Pst) : (childF me s inn out other q).2.length ≤ q.2.length + 14 := by
  have h1 := outF_len me s (inF me s (linkF me inn out other q))
  have h2 := inF_len me s (linkF me inn out other q)
  have h3 := linkF_len me inn out other q
  unfold childF
  simp
  omega
/-- The shell's own, with a pipe: both its ends. -/
def pipeF (q : Pst) : Pst := takeF (takeF (q.1, q.2 ++ [stp 0 10 0 0]))
def forkF (q : Pst) : Pst := (q.1, q.2 ++ [stp 0 2 0 0])
/-- One command of a pipe that is not the last one. -/
def cmdM (me : Int) (s : Smp) (bf : Int) (q : Pst) : Pst :=
  shutF 0 (lst (up q.1 (lst q.1) true)) (shutF 0 bf ((pipeF q).1, (childF me s bf (lst (up q.1 (lst q.1) true)) (lst q.1) (forkF (pipeF q))).2))
def cmdE (me : Int) (s : Smp) (bf : Int) (q : Pst) : Pst :=
  shutF 0 bf (q.1, (childF me s bf (-1) (-1) (forkF q)).2)
def goF (N : Nat) : List Smp → Nat → Int → Pst → Pst
  | [], _, _, q => q
  | s :: t, i, bf, q => if i + 1 < N then goF N t (i + 1) (lst q.1) (cmdM (i + 1) s bf q) else goF N t (i + 1) (-1) (cmdE (i + 1) s bf q)
/-- What holds of the shell's own from command to command. -/
structure Inv (bf : Int) (S : Fds) : Prop where
  low : Low S
  be : bf = -1 ∨ (0 ≤ bf ∧ bf < 8 ∧ S bf = true)
  room : (if bf < 0 then 4 else 3) ≤ cnt S
theorem shut_set {me n : Int} {S : Fds} {l : List Stp} (hn : 0 ≤ n) (h : S n = true) : shutF me n (S, l) = (up S n false, l ++ [stp me 6 n 0]) := by
  unfold shutF
  rw [if_pos ⟨hn, h⟩]
theorem shut_neg (me : Int) (q : Pst) : shutF me (-1) q = q := by
  unfold shutF
  rw [if_neg (by omega)]
theorem Inv.two {bf : Int} {S : Fds} (h : Inv bf S) : 3 ≤ cnt S := by
  have := h.room
  split at this <;> omega
/-- The two ends, and what is left when the shell has shut its own. -/
theorem Inv.mid {bf : Int} {q : Pst} (h : Inv bf q.1) : (0 ≤ lst q.1 ∧ lst q.1 < 8 ∧ q.1 (lst q.1) = false) ∧ (0 ≤ lst (up q.1 (lst q.1) true) ∧ lst (up q.1 (lst q.1) true) < 8 ∧ up q.1 (lst q.1) true (lst (up q.1 (lst q.1) true)) = false) ∧ Low (pipeF q).1 ∧ (bf = -1 ∨ (pipeF q).1 bf = true) ∧ (pipeF q).1 (lst (up q.1 (lst q.1) true)) = true ∧ lst (up q.1 (lst q.1) true) ≠ bf ∧
    Inv (lst q.1) (shutF 0 (lst (up q.1 (lst q.1) true)) (shutF 0 bf ((pipeF q).1, ([] : List Stp)))).1 := by
  have h3 := h.two
  obtain ⟨r0, r1, r2, _⟩ := lst_is (S := q.1) (by omega)
  obtain ⟨r, hr⟩ : ∃ r, lst q.1 = r := ⟨_, rfl⟩
  have hP : (pipeF q).1 = up (up q.1 r true) (lst (up q.1 r true)) true := by rw [← hr]; rfl
  rw [hP]
  rw [hr] at r0 r1 r2 ⊢
  have c1 := cnt_take ⟨r0, r1⟩ r2
  obtain ⟨w0, w1, w2, _⟩ := lst_is (S := up q.1 r true) (by omega)
  generalize lst (up q.1 r true) = w at *
  have c2 := cnt_take ⟨w0, w1⟩ w2
  have hlow := (h.low.up ⟨r0, r1⟩ true).up ⟨w0, w1⟩ true
  have hwr : w ≠ r := fun e => by rw [e, up_same] at w2; cases w2
  have hw : q.1 w = false := by rwa [up_other _ hwr] at w2
  have hS2w : up (up q.1 r true) w true w = true := up_same _ _ _
  have hS2r : up (up q.1 r true) w true r = true := by rw [up_other _ (Ne.symm hwr), up_same]
  refine ⟨⟨r0, r1, r2⟩, ⟨w0, w1, w2⟩, hlow, ?_, hS2w, ?_, ?_⟩
  · rcases h.be with e | ⟨b0, b1, b2⟩
    · exact .inl e
    · refine .inr ?_
      rw [up_other _ (fun e => by rw [e, hw] at b2; cases b2), up_other _ (fun e => by rw [e, r2] at b2; cases b2)]
      exact b2
  · rintro rfl
    rcases h.be with e | ⟨b0, b1, b2⟩
    · omega
    · rw [hw] at b2; cases b2
  · rcases h.be with rfl | ⟨b0, b1, b2⟩
    · rw [shut_neg, shut_set w0 hS2w]
      have c3 := cnt_free ⟨w0, w1⟩ hS2w
      have := h.room
      refine ⟨hlow.off w, .inr ⟨r0, r1, ?_⟩, ?_⟩
      · dsimp only
        rw [up_other _ (Ne.symm hwr)]; exact hS2r
      · dsimp only
        simp at this
        rw [if_neg (by omega)]
        omega
    · have hbr : r ≠ bf := fun e => by rw [e, b2] at r2; cases r2
      have hbw : w ≠ bf := fun e => by rw [e, b2] at hw; cases hw
      have e1 : up (up q.1 r true) w true bf = true := by rw [up_other _ (Ne.symm hbw), up_other _ (Ne.symm hbr)]; exact b2
      rw [shut_set b0 e1]
      have e2 : up (up (up q.1 r true) w true) bf false w = true := by rw [up_other _ hbw]; exact hS2w
      rw [shut_set w0 e2]
      have c3 := cnt_free ⟨b0, b1⟩ e1
      have c4 := cnt_free ⟨w0, w1⟩ e2
      have := h.room
      refine ⟨(hlow.off bf).off w, .inr ⟨r0, r1, ?_⟩, ?_⟩
      · dsimp only
        rw [up_other _ (Ne.symm hwr), up_other _ hbr]; exact hS2r
      · dsimp only
        rw [if_neg (by omega)] at this ⊢
        omega
theorem shutF_set (me n : Int) (S : Fds) (l l' : List Stp) : (shutF me n (S, l)).1 = (shutF me n (S, l')).1 := by
  unfold shutF
  dsimp only
  split <;> rfl
theorem cmdM_set (me : Int) (s : Smp) (bf : Int) (q : Pst) : (cmdM me s bf q).1 = (shutF 0 (lst (up q.1 (lst q.1) true)) (shutF 0 bf ((pipeF q).1, ([] : List Stp)))).1 := by
  unfold cmdM
  obtain ⟨S', l', h⟩ : ∃ S' l', shutF 0 bf ((pipeF q).1, (childF me s bf (lst (up q.1 (lst q.1) true)) (lst q.1) (forkF (pipeF q))).2) = (S', l') := ⟨_, _, rfl⟩
  obtain ⟨S2, l2, h2⟩ : ∃ S' l', shutF 0 bf ((pipeF q).1, ([] : List Stp)) = (S', l') := ⟨_, _, rfl⟩
  have e := shutF_set 0 bf (pipeF q).1 (childF me s bf (lst (up q.1 (lst q.1) true)) (lst q.1) (forkF (pipeF q))).2 []
  rw [h, h2] at e
  dsimp only at e
  subst e
  rw [h, h2]
  exact shutF_set _ _ _ _ _
theorem cmdM_len (me : Int) (s : Smp) (bf : Int) (q : Pst) : (cmdM me s bf q).2.length ≤ q.2.length + 18 := by
  have h1 := shutF_len 0 (lst (up q.1 (lst q.1) true)) (shutF 0 bf ((pipeF q).1, (childF me s bf (lst (up q.1 (lst q.1) true)) (lst q.1) (forkF (pipeF q))).2))
  have h2 := shutF_len 0 bf ((pipeF q).1, (childF me s bf (lst (up q.1 (lst q.1) true)) (lst q.1) (forkF (pipeF q))).2)
  have h3 := childF_len me s bf (lst (up q.1 (lst q.1) true)) (lst q.1) (forkF (pipeF q))
  unfold cmdM
  unfold forkF pipeF takeF at *
  simp at *
  omega
theorem cmdE_len (me : Int) (s : Smp) (bf : Int) (q : Pst) : (cmdE me s bf q).2.length ≤ q.2.length + 16 := by
  have h2 := shutF_len 0 bf (q.1, (childF me s bf (-1) (-1) (forkF q)).2)
  have h3 := childF_len me s bf (-1) (-1) (forkF q)
  unfold cmdE
  unfold forkF at *
  simp at *
  omega
theorem goF_mid {N : Nat} {ss : List Smp} {i : Nat} {bf : Int} {q : Pst} {s : Smp} {t : List Smp} (hs : ss.drop i = s :: t) (h : i + 1 < N) : goF N (ss.drop i) i bf q = goF N (ss.drop (i + 1)) (i + 1) (lst q.1) (cmdM (i + 1) s bf q) := by
  have e : ss.drop (i + 1) = t := by rw [show ss.drop (i + 1) = (ss.drop i).drop 1 by rw [List.drop_drop], hs]; rfl
  rw [hs, e, goF, if_pos h]
theorem goF_end {N : Nat} {ss : List Smp} {i : Nat} {bf : Int} {q : Pst} {s : Smp} {t : List Smp} (hs : ss.drop i = s :: t) (h : ¬ i + 1 < N) : goF N (ss.drop i) i bf q = goF N (ss.drop (i + 1)) (i + 1) (-1) (cmdE (i + 1) s bf q) := by
  have e : ss.drop (i + 1) = t := by rw [show ss.drop (i + 1) = (ss.drop i).drop 1 by rw [List.drop_drop], hs]; rfl
  rw [hs, e, goF, if_neg h]
/-- The descriptors that are open at first. -/
def opened (S : Fds) (os : List Int) : Fds := os.foldl (fun S n => up S n true) S
def badO (os : List Int) : Bool := os.any fun n => decide (n < 0 ∨ 8 ≤ n)
def Smp.bad (s : Smp) : Bool := s.n == 0 || s.a0.size == 0
def planErr (N : Nat) (ss : List Smp) (os : List Int) : Int :=
  if N < 1 ∨ 6 < N then 1 else if badO os = true then 1 else if ss.any Smp.bad = true then 3 else if cnt (opened (fun _ => false) os) < 4 then 6 else 0
def planL (N : Nat) (ss : List Smp) (os : List Int) : List Stp := (goF N ss 0 (-1) (opened (fun _ => false) os, [])).2 ++ List.replicate N (stp 0 4 0 0)
end Go.Proofs.Ytjeclmkdojnflaa
