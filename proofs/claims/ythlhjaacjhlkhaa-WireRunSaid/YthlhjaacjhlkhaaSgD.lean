/- One end of a stream: contract of Out (what is said now). -/
import Derived.Test.YthlhjaacjhlkhaaSgC
namespace Go.Proofs.Ythlhjaacjhlkhaa
open Go.RowKit
set_option maxHeartbeats 400000
set_option linter.unusedVariables false
set_option linter.unusedSimpArgs false
def lenOf : Value → Nat
  | .slice _ n _ => n
  | _ => 0
/-- What Out hands out. -/
def OutP (w : World) (B g : Nat) (vo vi : Value) (s : Sm) (m : Nat) (r : List Sg × Sm) (e : Ending) (w' : World) : Prop :=
  ∃ A c x', e = .returned (.slice A r.1.length c) ∧ OutS w B g vo vi s m w' (.slice A r.1.length c) r.1 r.2 x'
/-- In the loop: what is said so far, and what is still to come. -/
structure LoopI (s : Sm) (L : List Sg) (s1 : Sm) (f : Nat) : Prop where
  e : Sm.loopO s.limitN 64 s = (L ++ (Sm.loopO s.limitN f s1).1, (Sm.loopO s.limitN f s1).2)
  n : L.length + f = 64
  r : s.limitN - (s1.nxt - 1) ≤ f
theorem LoopI.start (s : Sm) (h : s.limitN - (s.nxt - 1) ≤ 64) : LoopI s [] s 64 := ⟨rfl, rfl, h⟩
theorem LoopI.done {s s1 : Sm} {L : List Sg} {f : Nat} (h : LoopI s L s1 f) (hn : ¬ s1.nxt - 1 < s.limitN) : Sm.loopO s.limitN 64 s = (L, s1) := by
  rw [h.e]
  cases f with
  | zero => simp [Sm.loopO]
  | succ f => simp only [Sm.loopO]; rw [if_neg hn]; simp
theorem LoopI.step {s s1 : Sm} {L : List Sg} {f : Nat} (h : LoopI s L s1 f) (hn : s1.nxt - 1 < s.limitN) (hnx : 1 ≤ s1.nxt) :
    ∃ f', LoopI s (L ++ [s1.saySg 0 (min 32 (s.limitN - (s1.nxt - 1)))]) (s1.sayS (min 32 (s.limitN - (s1.nxt - 1)))) f' := by
  cases f with
  | zero => have := h.r; omega
  | succ f =>
    refine ⟨f, ?_, by rw [List.length_append]; have := h.n; simp; omega, ?_⟩
    · rw [h.e]
      simp only [Sm.loopO]
      rw [if_pos hn]
      simp
    · have := h.r
      show s.limitN - (s1.nxt + min 32 (s.limitN - (s1.nxt - 1)) - 1) ≤ f
      omega
theorem one5 (a b : Int) (c d : Int) (A : Option Addr) (n k : Nat) : ∀ u ∈ [Value.int .u32 a, Value.int .u32 b, Value.int .i64 c, Value.int .i64 d, Value.slice A n k], u.oneCell' = true := by
  intro u hu
  simp at hu
  rcases hu with rfl | rfl | rfl | rfl | rfl <;> rfl
section
variable {w : World} {B g : Nat} {x : EC} {s : Sm} {vo vi : Value} {m : Nat}
set_option maxHeartbeats 4000000 in
set_option maxRecDepth 100000 in
theorem out50_none (h : ESt w B g x vo vi s.out s.inn) (tie : Tie s x) (hB : B ≤ w.heap.size) (hok : s.Ok m) (hm : m ≤ 1000) (h4' : s.st ≠ 4) (hno : (s.st ≠ 2 ∧ s.st ≠ 3) ∨ s.nxt ≠ s.una) :
    Calls Try.prog 50 #[.pointer (some ⟨g, 0, none⟩)] w (OutP w B g vo vi s m ([], s)) := by
  have HB := Lib.hid h
  have HT := Lib.hid tie
  have HOK := Lib.hid hok
  have htop := hok.top_le hm
  have hnt := hok.nt
  have hun := hok.un
  have HTOP : Hid (s.top ≤ 64002 ∧ s.nxt ≤ s.top ∧ s.una ≤ s.nxt) := Lib.hid ⟨htop, hnt, hun⟩
  have HSL : Hid (s.out.length ≤ 64 ∧ s.inn.length ≤ 64 ∧ s.said.length ≤ 64000) := Lib.hid ⟨by rw [s.out_len]; exact hok.room, by rw [s.inn_len]; exact hok.rroom, by have := hok.said; omega⟩
  have hgl := (Ob2.blk h).lt
  have HFP := Lib.hid (fun k hk => (Ob2.lt h k hk).2)
  have hc := (Ob2.blk h).cell
  have HO0 : Hid (OutS w B g vo vi s m w (.slice none 0 0) [] s x) := Lib.hid ⟨tie, hok, Sam.refl s, h, Fr.refl _ _, SgL.nil _ _⟩
  obtain ⟨i1, ii1, hz10, hz11, hz12⟩ := info_parts pseginfo
  obtain ⟨A0, c0, A', c', hvo, hvi, h1, h2, h3, h4⟩ := h.look
  have HVO := Lib.hid hvo
  dsimp only [ecells] at hc
  have hbn : ((x.st == 2) = false ∧ (x.st == 3) = false) ∨ (x.nxt == x.una) = false := by
    rcases hno with h | h
    · exact .inl ⟨by rw [tie.st]; simpa using h.1, by rw [tie.st]; simpa using h.2⟩
    · refine .inr ?_
      rw [beq_eq_false_iff_ne, tie.nxt, tie.una]
      exact fun e => h ((seqI_inj hok (by omega) (by omega)).1 e)
  have d4 : (x.st != 4) = true := by rw [tie.st]; simpa using h4'
  clear h tie hok hno h4' htop hnt hun hm hvo hvi
  obtain ⟨b2, hb2⟩ : ∃ b, (x.st == 2) = b := ⟨_, rfl⟩
  obtain ⟨b3, hb3⟩ : ∃ b, (x.st == 3) = b := ⟨_, rfl⟩
  obtain ⟨bn, hbu⟩ : ∃ b, (x.nxt == x.una) = b := ⟨_, rfl⟩
  rw [hb2, hb3, hbu] at hbn
  have HBN := Lib.hid hbn
  clear hbn
  cases b2 <;> cases b3 <;> cases bn
  all_goals
    first
    | (exfalso; rcases HBN.out with ⟨h8, h9⟩ | h8 <;> first | (cases h8; done) | (cases h9; done))
    | (go_enter Try.func50, Try.ntmps50
       go_wp2_with fail
       go_quiet (fail)
       have HOD : Hid (OutS w B g vo vi s m (w.drewN nq) (.slice none 0 0) [] s x) := Lib.hid ⟨HT.out, HOK.out, Sam.refl s, Ob2.grow HB.out (st_drewN (Below.refl _ _) _), (Fr.refl _ _).drewN _, SgL.nil _ _⟩
       go_wp2
       go_ret
       exact ⟨none, 0, x, rfl, HOD.out⟩)
set_option maxHeartbeats 4000000 in
set_option maxRecDepth 100000 in
theorem out50_syn (h : ESt w B g x vo vi s.out s.inn) (tie : Tie s x) (hB : B ≤ w.heap.size) (hok : s.Ok m) (hm : m ≤ 1000) (hst : s.st = 2 ∨ s.st = 3) (hnx : s.nxt = s.una) :
    Calls Try.prog 50 #[.pointer (some ⟨g, 0, none⟩)] w (OutP w B g vo vi s m ([s.saySg 1 0], s.sayS 1)) := by
  have HB := Lib.hid h
  have HT := Lib.hid tie
  have HOK := Lib.hid hok
  have htop := hok.top_le hm
  have hnt := hok.nt
  have hun := hok.un
  have HTOP : Hid (s.top ≤ 64002 ∧ s.nxt ≤ s.top ∧ s.una ≤ s.nxt) := Lib.hid ⟨htop, hnt, hun⟩
  have HSL : Hid (s.out.length ≤ 64 ∧ s.inn.length ≤ 64 ∧ s.said.length ≤ 64000) := Lib.hid ⟨by rw [s.out_len]; exact hok.room, by rw [s.inn_len]; exact hok.rroom, by have := hok.said; omega⟩
  have hgl := (Ob2.blk h).lt
  have HFP := Lib.hid (fun k hk => (Ob2.lt h k hk).2)
  have hc := (Ob2.blk h).cell
  have HO0 : Hid (OutS w B g vo vi s m w (.slice none 0 0) [] s x) := Lib.hid ⟨tie, hok, Sam.refl s, h, Fr.refl _ _, SgL.nil _ _⟩
  obtain ⟨i1, ii1, hz10, hz11, hz12⟩ := info_parts pseginfo
  obtain ⟨A0, c0, A', c', hvo, hvi, h1, h2, h3, h4⟩ := h.look
  have HVO := Lib.hid hvo
  dsimp only [ecells] at hc
  have hst23 : s.st = 2 ∨ s.st = 3 := hst
  have d2 : (x.st == 2) = true ∨ ((x.st == 2) = false ∧ (x.st == 3) = true) := by
    rw [tie.st]
    rcases hst with h | h <;> simp [h]
  have d3 : (x.nxt == x.una) = true := by rw [beq_iff_eq, tie.nxt, tie.una, hnx]
  have d4 : (x.st != 4) = true := by rw [tie.st]; simp; omega
  have HSTX : Hid (2 ≤ s.st ∧ s.st ≤ 4) := Lib.hid ⟨by omega, by omega⟩
  have HNX0 := Lib.hid hnx
  have HUN0 : Hid (s.una = 0) := Lib.hid (hok.early (by omega)).1
  clear h tie hok hst hst23 hnx htop hnt hun hm hvo hvi
  rcases d2 with d2 | ⟨d2, d2'⟩
  all_goals
    go_enter Try.func50, Try.ntmps50
    go_wp2_with fail
    go_quiet (fail)
    obtain ⟨W, hW⟩ : ∃ W, W = w.drewN nq := ⟨_, rfl⟩
    rw [← hW]
    have HO : Hid (OutS w B g vo vi s m W (.slice none 0 0) [] s x) := Lib.hid (by rw [hW]; exact ⟨HT.out, HOK.out, Sam.refl s, Ob2.grow HB.out (st_drewN (Below.refl _ _) _), (Fr.refl _ _).drewN _, SgL.nil _ _⟩)
    clear hW hc
    have HSAYa := Lib.hid (say95 HO.out.o 1 (by decide) none 0 0 ([] : List Int) ⟨⟨by simp, fun h => by simp at h⟩, fun x hx => by cases hx⟩ (by omega) HSL.out.2.1)
    obtain ⟨SGa, hSGa⟩ : ∃ SG, sayE x s.inn.length 1 ([] : List Int) = SG := ⟨_, rfl⟩
    obtain ⟨Xa, hXa⟩ : ∃ X, sayX x ((0 : Nat) + 1 % 2 + 1 / 4 % 2) = X := ⟨_, rfl⟩
    rw [hSGa, hXa] at HSAYa
    have HSGa := Lib.hid hSGa
    have HXa := Lib.hid hXa
    clear hSGa hXa
    go_wp2_with fail
    refine HSAYa.out.mono ?_
    rintro e W5a ⟨A5, c5, rfl, hr5, ho5, hf5⟩
    have HBYa : Hid (Byt SGa.dat) := Lib.hid (by rw [← HSGa.out]; exact (show Byt ([] : List Int) from (fun x hx => by cases hx)))
    obtain ⟨xs', hX1, hX2⟩ := out_step HO.out.f hgl HO.out.l hr5 ho5 hf5 HBYa.out HFP.out
    have HX1 := Lib.hid hX1
    have HX2 := Lib.hid hX2
    have hW5a : w.heap.size ≤ W5a.heap.size := (HO.out.f.trans' hf5).size
    clear hr5 ho5 hf5 hX1 hX2
    unfold sgc
    go_wp2_with (at_builtin; refine wpList_append_row _ rfl (.tmp 29) (.tmp 32) 75 rfl w.heap.size 25 i1 (.agg #[.int .u32 0, .int .u32 0, .int .i64 0, .int .i64 0, .slice none 0 0]) 5 48 Try.underlying75 ii1 hz10 hz11 hz12 rfl (by decide) (.slice none 0 0) ([] : List Sg).length xs' rfl HX1.out (W5a.heap.size + 1) (some ⟨W5a.heap.size, 0, none⟩) 1 1 [.int .u32 SGa.seq, .int .u32 SGa.ack, .int .i64 SGa.flags, .int .i64 SGa.window, .slice A5 SGa.dat.length c5] rfl (reads_new W5a #[.int .u32 SGa.seq, .int .u32 SGa.ack, .int .i64 SGa.flags, .int .i64 SGa.window, .slice A5 SGa.dat.length c5] 25 5 rfl) (one5 _ _ _ _ _ _ _) ?d1 ?d2 ?d3 ?_; rotate_left; skip)
    case d1 => simp [maxLen]
    case d2 => simp
    case d3 => simp; omega
    intro A9 c9 Wa hr9 hg9 ho9
    obtain ⟨ho2, hf2, hl2⟩ := HX2.out Wa A9 c9 hr9 hg9
    have HOa : Hid (OutS w B g vo vi s m Wa (.slice A9 1 c9) [s.saySg 1 0] (s.sayS 1) Xa) := Lib.hid (by
      have e1 : SGa = s.saySg 1 0 := by rw [← HSGa.out, ← tie_saySg HT.out HSTX.out.1 HSTX.out.2 1 0]; simp
      have hnt := HTOP.out
      refine ⟨by rw [← HXa.out]; exact tie_say HT.out (by omega) hnt.2.1 1 (by omega), HOK.out.say (by have := HOK.out.tl; have := HNX0.out; have := HUN0.out; omega) (fun _ => by have := HNX0.out; have := HUN0.out; omega), (Sam.refl s).say 1, ho2, hf2, ?_⟩
      rw [← e1]
      exact hl2)
    have hca := HOa.out.o.blk.cell
    have hlta := HOa.out.o.blk.lt
    have hsta : Xa.st = x.st := by rw [← HXa.out]; rfl
    dsimp only [ecells] at hca
    rw [hsta] at hca
    clear ho2 hf2 hl2 hr9 hg9 ho9 hsta
    go_wp2
    go_ret
    exact ⟨_, _, _, rfl, HOa.out⟩
end
end Go.Proofs.Ythlhjaacjhlkhaa
