/- One end of a stream: contract of Read. -/
import Derived.Test.YthlhjaacjhlkhaaStE
namespace Go.Proofs.Ythlhjaacjhlkhaa
open Go.RowKit
set_option maxHeartbeats 400000
set_option linter.unusedVariables false
set_option linter.unusedSimpArgs false
def stRE (x : EC) (l : Nat) (n : Int) : Int := if n < 0 ∨ 256 < n then 1 else if x.st = 0 ∨ x.st = 1 then 8 else if 0 < n ∧ l = 0 ∧ x.fin = false then (if x.st = 5 then 10 else 9) else 0
def stRK (l : Nat) (n : Int) : Nat := min n.toNat l
def stRX (x : EC) (l : Nat) (n : Int) : EC := if stRE x l n = 0 then { x with due := x.due || (decide (0 < stRK l n) && decide (x.st = 4)) } else x
def stRV (x : EC) (ys : List Int) (n : Int) : List Int := if stRE x ys.length n = 0 then ys.take (stRK ys.length n) else []
def stRY (x : EC) (ys : List Int) (n : Int) : List Int := if stRE x ys.length n = 0 then ys.drop (stRK ys.length n) else ys
def RdP (vs : List Int) (er : Int) (w : World) (B g : Nat) (vo vi : Value) (x' : EC) (xs' ys' : List Int) (e : Ending) (w' : World) : Prop :=
  ∃ A c, e = .returned (.tuple #[.slice A vs.length c, .int .i64 er]) ∧ RB w' w'.heap.size A vs.length vs ∧ EGo w B g vo vi x' xs' ys' w'
section
variable {w : World} {B g : Nat} {x : EC} {vo vi : Value} {xs ys : List Int}
theorem rd_bad {er : Int} (h : ESt w B g x vo vi xs ys) : RdP [] er w B g vo vi x xs ys (.returned (.tuple #[.slice none 0 0, .int .i64 er])) w :=
  ⟨none, 0, rfl, ⟨⟨by simp, fun h => by simp at h⟩, fun x hx => by cases hx⟩, Ob2.same h (Below.refl _ w)⟩
theorem st_sizeOf5 (W : World) : (sizeOf 5).run Try.prog W = .ok 1 W := by kernel_rfl
theorem st_elem23 : Try.prog.elem 23 = 5 := by kernel_rfl
set_option maxHeartbeats 2000000 in
set_option maxRecDepth 100000 in
theorem read_ok (h : ESt w B g x vo vi xs ys) (hB : B ≤ w.heap.size) (hl : ys.length ≤ 64) (n : Int) (k : Nat) (hk : min n.toNat ys.length = k) (hn0 : 0 ≤ n) (hn : n ≤ 256) (hs : ¬ (x.st = 0 ∨ x.st = 1)) (hw : ¬ (0 < n ∧ ys.length = 0 ∧ x.fin = false)) (dq : Bool)
    (hcase : (x.due = true ∧ dq = true) ∨ (x.due = false ∧ k = 0 ∧ dq = false) ∨ (x.due = false ∧ 0 < k ∧ x.st = 4 ∧ dq = true) ∨ (x.due = false ∧ 0 < k ∧ x.st ≠ 4 ∧ dq = false)) :
    Calls Try.prog 43 #[.pointer (some ⟨g, 0, none⟩), .int .i64 n] w (RdP (ys.take k) 0 w B g vo vi { x with due := dq } xs (ys.drop k)) := by
  have HG := Lib.hid h
  obtain ⟨A0, c0, A', c', rfl, rfl, h1, h2, h3, h4⟩ := h.look
  have hc0 := (Ob2.blk h).cell 0
  have hc7 := (Ob2.blk h).cell 7
  have hc10 := (Ob2.blk h).cell 10
  have hc11 := (Ob2.blk h).cell 11
  rw [show (ecells x (.slice A0 xs.length c0) (.slice A' ys.length c'))[0]? = some (.int .i64 x.st) from rfl] at hc0
  rw [show (ecells x (.slice A0 xs.length c0) (.slice A' ys.length c'))[7]? = some (.slice A' ys.length c') from rfl] at hc7
  rw [show (ecells x (.slice A0 xs.length c0) (.slice A' ys.length c'))[10]? = some (.bool x.fin) from rfl] at hc10
  rw [show (ecells x (.slice A0 xs.length c0) (.slice A' ys.length c'))[11]? = some (.bool x.due) from rfl] at hc11
  have hlt := (Ob2.blk h).lt
  have d1 : decide (n < 0) = false := by simpa using hn0
  have d2 : decide (256 < n) = false := by simpa using hn
  have d3 : (x.st == 0) = false := by simp; omega
  have d4 : (x.st == 1) = false := by simp; omega
  have hmin : min n (ys.length : Int) = (k : Int) := by omega
  have hkl : k ≤ ys.length := by omega
  have HROW := Lib.hid (Ob2.ri h)
  have hrb : RB w w.heap.size A' ys.length ys := ⟨(Ob2.ri h).reads, Ob2.bi h⟩
  have HC1 := Lib.hid (bclone_any A' k c' (ys.take k) w w.heap.size ⟨by simpa using hrb.1.take (k := k) hkl, byt_take hrb.2 k⟩ (Nat.le_refl _) (by omega))
  obtain ⟨A2, hrun, hr2⟩ := row_cut_run Try.prog Try.underlying23 st_elem23 st_sizeOf5 (Ob2.ri h) k hkl h3
  rw [← List.map_drop] at hr2
  have HR2 := Lib.hid hr2
  have hkc : k ≤ c' := by omega
  have HTK : Hid ((ys.take k).length = k) := Lib.hid (by rw [List.length_take]; omega)
  have hdl : (ys.drop k).length = ys.length - k := List.length_drop
  have HK1 := Lib.hid (fun w1 (hb1 : Below w.heap.size w w1) => (show w1.cell? ⟨g, 0, none⟩ = some (.int .i64 x.st) ∧ w1.cell? ⟨g, 7, none⟩ = some (.slice A' ys.length c') ∧ w1.cell? ⟨g, 11, none⟩ = some (.bool x.due) ∧ (∀ j, w1.frozen? ⟨g, j, none⟩ = false) ∧ g < w1.heap.size from
    ⟨(hb1.cell (p := ⟨g, 0, none⟩) hlt).trans hc0, (hb1.cell (p := ⟨g, 7, none⟩) hlt).trans hc7, (hb1.cell (p := ⟨g, 11, none⟩) hlt).trans hc11, (Ob2.grow HG.out hb1).blk.free, (Ob2.grow HG.out hb1).blk.lt⟩))
  have HSET := Lib.hid (fun w1 (hb1 : Below w.heap.size w w1) => (Ob2.sets (cs' := ecells { x with due := dq }) (W := w1.setCell ⟨g, 11, none⟩ (.bool dq)) (Ob2.grow HG.out hb1) ((Fr.refl (fun k => k = g) w1).setCell (p := ⟨g, 11, none⟩) (fun _ => rfl) (.bool dq)) ((Ob2.grow HG.out hb1).blk.set 11 (.bool dq)) (by simp [ecells])))
  have HOB := Lib.hid (fun w1 (hb1 : Below w.heap.size w w1) => (show ESt (w1.setCell ⟨g, 11, none⟩ (.bool dq)) B g { x with due := dq } (.slice A0 xs.length c0) (.slice A' ys.length c') xs ys from
    have h0 := Ob2.grow HG.out hb1
    have hf : Fr (fun k => k = g) w1 (w1.setCell ⟨g, 11, none⟩ (.bool dq)) := (Fr.refl (fun k => k = g) w1).setCell (p := ⟨g, 11, none⟩) (fun _ => rfl) (.bool dq)
    ⟨by have := h0.blk.set 11 (.bool dq); simpa [ecells] using this, h0.ro.fr hf (fun k hk e => h0.no (e ▸ hk)), h0.ri.fr hf (fun k hk e => h0.ni (e ▸ hk)), h0.bo, h0.bi, h0.dis, h0.no, h0.ni, h0.low⟩))
  have hngv : (Value.slice A2 (ys.length - k) (c' - k)).ownBlock ≠ some g := fun e => by
    have := hr2.2
    rcases this with ⟨e1, _⟩ | ⟨g1, o1, cap1, cur1, e1, _, hg1, _⟩
    · rw [e1] at e; simp [Value.ownBlock] at e
    · rw [e1] at e; simp [Value.ownBlock] at e; subst e
      have h5 := (Ob2.blk h)
      unfold Blk at h5
      rw [h5] at hg1
      injection hg1 with hg1
      injection hg1 with _ hg1
      exact absurd hg1 (by decide)
  have HC2W := Lib.hid (fun w1 (hb1 : Below w.heap.size w w1) => bclone_any A2 (ys.length - k) (c' - k) (ys.drop k) (w1.setCell ⟨g, 11, none⟩ (.bool dq)) _ ⟨((HR2.out.grow hb1).setCell (p := ⟨g, 11, none⟩) hngv (.bool dq)).reads, byt_drop hrb.2 k⟩ (Nat.le_refl _) (by omega))
  have HK2 := Lib.hid (fun w1 w2 (hb1 : Below w.heap.size w w1) (hb2 : Below (w1.setCell ⟨g, 11, none⟩ (.bool dq)).heap.size (w1.setCell ⟨g, 11, none⟩ (.bool dq)) w2) => (show w2.cell? ⟨g, 7, none⟩ = some (.slice A' ys.length c') ∧ (∀ j, w2.frozen? ⟨g, j, none⟩ = false) ∧ g < w2.heap.size from
    have h0 := Ob2.grow (HOB.out w1 hb1) hb2
    ⟨h0.blk.cell 7, h0.blk.free, h0.blk.lt⟩))
  have HFIN := Lib.hid (fun w1 (hb1 : Below w.heap.size w w1) w2 A9 c9 (hr1 : Row w1 w.heap.size 5 1 (.slice A9 k c9) k ((ys.take k).map (Value.int .u8))) (hb2 : Below (w1.setCell ⟨g, 11, none⟩ (.bool dq)).heap.size (w1.setCell ⟨g, 11, none⟩ (.bool dq)) w2) A8 c8 (hr8 : Row w2 (w1.setCell ⟨g, 11, none⟩ (.bool dq)).heap.size 5 1 (.slice A8 (ys.length - k) c8) (ys.length - k) ((ys.drop k).map (Value.int .u8))) =>
    (show RB (w2.setCell ⟨g, 7, none⟩ (.slice A8 (ys.length - k) c8)) (w2.setCell ⟨g, 7, none⟩ (.slice A8 (ys.length - k) c8)).heap.size A9 k (ys.take k) ∧ EGo w B g (.slice A0 xs.length c0) (.slice A' ys.length c') { x with due := dq } xs (ys.drop k) (w2.setCell ⟨g, 7, none⟩ (.slice A8 (ys.length - k) c8)) by
      have h0 := HOB.out w1 hb1
      have hb1s := hb1.size
      have hne : (Value.slice A9 k c9).ownBlock ≠ some g := fun e => by
        have := (hr1.lt g e).1; omega
      refine ⟨⟨(((hr1.setCell (p := ⟨g, 11, none⟩) hne _).grow hb2).setCell (p := ⟨g, 7, none⟩) hne _).reads, byt_take hrb.2 k⟩, ?_⟩
      refine Ob2Go.of_grow hb1 (Ob2Go.step (HSET.out w1 hb1) (fun vo1 vi1 h5 => ?_))
      have hbl : B ≤ (w1.setCell ⟨g, 11, none⟩ (.bool dq)).heap.size := by simp; omega
      exact Ob2.setI h5 ((Fr.of_grow hb2).mono (fun _ _ h => h.elim)) (by rw [hdl]; exact hr8.base_le hbl) (byt_drop hrb.2 k) (fun j hj => .inr (hr8.lt j hj).1) ((Fr.refl (fun k => k = g) w2).setCell (p := ⟨g, 7, none⟩) (fun _ => rfl) _) (((Ob2.grow h5 hb2).blk).set 7 (.slice A8 (ys.length - k) c8)) (by simp [ecells])))
  clear HSET HOB hngv hr2 hrb HG hdl h
  generalize hl0 : ys.length = l at *
  generalize x.st = s at *
  have HL0 := Lib.hid hl0
  have HK0 := Lib.hid hk
  have HW := Lib.hid hw
  clear hl0 hk hw hs
  rcases hcase with ⟨hdu, rfl⟩ | ⟨hdu, hk0, rfl⟩ | ⟨hdu, hk0, h4', rfl⟩ | ⟨hdu, hk0, h4', rfl⟩
  · rw [hdu] at hc11 HK1
    clear hdu
    by_cases hn1 : 0 < n
    · have t1 : decide (0 < n) = true := by simpa using hn1
      by_cases hl1 : l = 0
      · have t2 : ((l : Int) == 0) = true := by simpa using hl1
        have hfi : x.fin = true := by
          cases hf : x.fin with
          | true => rfl
          | false => exact absurd ⟨hn1, hl1, hf⟩ HW.out
        rw [hfi] at hc10
        clear hfi hn1 hl1
        go_enter Try.func43, Try.ntmps43
        go_wp2_with (refine wpList_min _ rfl (.tmp 70) (.tmp 75) 3 3 rfl n (l : Int) (k : Int) rfl rfl hmin ?_)
        refine HC1.out.mono ?_
        rintro e w1 ⟨v, rfl, hr1, hb1⟩
        obtain ⟨A9, c9, rfl, -, -⟩ := hr1.shape
        obtain ⟨k0, k7, k11, kf, kl⟩ := HK1.out w1 hb1
        have HR1 := Lib.hid hr1
        have HB1 := Lib.hid hb1
        have HC2 := Lib.hid (HC2W.out w1 hb1)
        clear hr1 hb1 hc0 hc7 hc10 hc11
        go_wp2_with (refine wpList_slice_lo rfl 23 5 (.tmp 106) (.tmp 107) rfl Try.underlying23 (.slice A' l c') (.int .i64 k) rfl rfl (.slice A2 (l - k) (c' - k)) (hrun _) ?_)
        refine HC2.out.mono ?_
        rintro e w2 ⟨v, rfl, hr8, hb2⟩
        obtain ⟨A8, c8, rfl, -, -⟩ := hr8.shape
        obtain ⟨q1, q2, q3⟩ := HK2.out w1 w2 HB1.out hb2
        have HF := Lib.hid (HFIN.out w1 HB1.out w2 A9 c9 HR1.out hb2 A8 c8 hr8)
        clear hr8 hb2 k0 k7 k11 kf kl
        go_wp2
        go_ret2
        exact ⟨A9, c9, by rw [HTK.out]; rfl, by rw [HTK.out]; exact HF.out.1, HF.out.2⟩
      · have t2 : ((l : Int) == 0) = false := by simpa using hl1
        clear hn1 hl1
        go_enter Try.func43, Try.ntmps43
        go_wp2_with (refine wpList_min _ rfl (.tmp 70) (.tmp 75) 3 3 rfl n (l : Int) (k : Int) rfl rfl hmin ?_)
        refine HC1.out.mono ?_
        rintro e w1 ⟨v, rfl, hr1, hb1⟩
        obtain ⟨A9, c9, rfl, -, -⟩ := hr1.shape
        obtain ⟨k0, k7, k11, kf, kl⟩ := HK1.out w1 hb1
        have HR1 := Lib.hid hr1
        have HB1 := Lib.hid hb1
        have HC2 := Lib.hid (HC2W.out w1 hb1)
        clear hr1 hb1 hc0 hc7 hc10 hc11
        go_wp2_with (refine wpList_slice_lo rfl 23 5 (.tmp 106) (.tmp 107) rfl Try.underlying23 (.slice A' l c') (.int .i64 k) rfl rfl (.slice A2 (l - k) (c' - k)) (hrun _) ?_)
        refine HC2.out.mono ?_
        rintro e w2 ⟨v, rfl, hr8, hb2⟩
        obtain ⟨A8, c8, rfl, -, -⟩ := hr8.shape
        obtain ⟨q1, q2, q3⟩ := HK2.out w1 w2 HB1.out hb2
        have HF := Lib.hid (HFIN.out w1 HB1.out w2 A9 c9 HR1.out hb2 A8 c8 hr8)
        clear hr8 hb2 k0 k7 k11 kf kl
        go_wp2
        go_ret2
        exact ⟨A9, c9, by rw [HTK.out]; rfl, by rw [HTK.out]; exact HF.out.1, HF.out.2⟩
    · have t1 : decide (0 < n) = false := by simpa using hn1
      clear hn1
      go_enter Try.func43, Try.ntmps43
      go_wp2_with (refine wpList_min _ rfl (.tmp 70) (.tmp 75) 3 3 rfl n (l : Int) (k : Int) rfl rfl hmin ?_)
      refine HC1.out.mono ?_
      rintro e w1 ⟨v, rfl, hr1, hb1⟩
      obtain ⟨A9, c9, rfl, -, -⟩ := hr1.shape
      obtain ⟨k0, k7, k11, kf, kl⟩ := HK1.out w1 hb1
      have HR1 := Lib.hid hr1
      have HB1 := Lib.hid hb1
      have HC2 := Lib.hid (HC2W.out w1 hb1)
      clear hr1 hb1 hc0 hc7 hc10 hc11
      go_wp2_with (refine wpList_slice_lo rfl 23 5 (.tmp 106) (.tmp 107) rfl Try.underlying23 (.slice A' l c') (.int .i64 k) rfl rfl (.slice A2 (l - k) (c' - k)) (hrun _) ?_)
      refine HC2.out.mono ?_
      rintro e w2 ⟨v, rfl, hr8, hb2⟩
      obtain ⟨A8, c8, rfl, -, -⟩ := hr8.shape
      obtain ⟨q1, q2, q3⟩ := HK2.out w1 w2 HB1.out hb2
      have HF := Lib.hid (HFIN.out w1 HB1.out w2 A9 c9 HR1.out hb2 A8 c8 hr8)
      clear hr8 hb2 k0 k7 k11 kf kl
      go_wp2
      go_ret2
      exact ⟨A9, c9, by rw [HTK.out]; rfl, by rw [HTK.out]; exact HF.out.1, HF.out.2⟩
  · rw [hdu] at hc11 HK1
    have u1 : decide (0 < (k : Int)) = false := by simp; omega
    have u2 : ¬ 0 < k := by omega
    clear hdu hk0
    by_cases hn1 : 0 < n
    · have t1 : decide (0 < n) = true := by simpa using hn1
      by_cases hl1 : l = 0
      · have t2 : ((l : Int) == 0) = true := by simpa using hl1
        have hfi : x.fin = true := by
          cases hf : x.fin with
          | true => rfl
          | false => exact absurd ⟨hn1, hl1, hf⟩ HW.out
        rw [hfi] at hc10
        clear hfi hn1 hl1
        go_enter Try.func43, Try.ntmps43
        go_wp2_with (refine wpList_min _ rfl (.tmp 70) (.tmp 75) 3 3 rfl n (l : Int) (k : Int) rfl rfl hmin ?_)
        refine HC1.out.mono ?_
        rintro e w1 ⟨v, rfl, hr1, hb1⟩
        obtain ⟨A9, c9, rfl, -, -⟩ := hr1.shape
        obtain ⟨k0, k7, k11, kf, kl⟩ := HK1.out w1 hb1
        have HR1 := Lib.hid hr1
        have HB1 := Lib.hid hb1
        have HC2 := Lib.hid (HC2W.out w1 hb1)
        clear hr1 hb1 hc0 hc7 hc10 hc11
        go_wp2_with (refine wpList_slice_lo rfl 23 5 (.tmp 106) (.tmp 107) rfl Try.underlying23 (.slice A' l c') (.int .i64 k) rfl rfl (.slice A2 (l - k) (c' - k)) (hrun _) ?_)
        refine HC2.out.mono ?_
        rintro e w2 ⟨v, rfl, hr8, hb2⟩
        obtain ⟨A8, c8, rfl, -, -⟩ := hr8.shape
        obtain ⟨q1, q2, q3⟩ := HK2.out w1 w2 HB1.out hb2
        have HF := Lib.hid (HFIN.out w1 HB1.out w2 A9 c9 HR1.out hb2 A8 c8 hr8)
        clear hr8 hb2 k0 k7 k11 kf kl
        go_wp2
        go_ret2
        exact ⟨A9, c9, by rw [HTK.out]; rfl, by rw [HTK.out]; exact HF.out.1, HF.out.2⟩
      · exact absurd HK0.out (by omega)
    · have t1 : decide (0 < n) = false := by simpa using hn1
      clear hn1
      go_enter Try.func43, Try.ntmps43
      go_wp2_with (refine wpList_min _ rfl (.tmp 70) (.tmp 75) 3 3 rfl n (l : Int) (k : Int) rfl rfl hmin ?_)
      refine HC1.out.mono ?_
      rintro e w1 ⟨v, rfl, hr1, hb1⟩
      obtain ⟨A9, c9, rfl, -, -⟩ := hr1.shape
      obtain ⟨k0, k7, k11, kf, kl⟩ := HK1.out w1 hb1
      have HR1 := Lib.hid hr1
      have HB1 := Lib.hid hb1
      have HC2 := Lib.hid (HC2W.out w1 hb1)
      clear hr1 hb1 hc0 hc7 hc10 hc11
      go_wp2_with (refine wpList_slice_lo rfl 23 5 (.tmp 106) (.tmp 107) rfl Try.underlying23 (.slice A' l c') (.int .i64 k) rfl rfl (.slice A2 (l - k) (c' - k)) (hrun _) ?_)
      refine HC2.out.mono ?_
      rintro e w2 ⟨v, rfl, hr8, hb2⟩
      obtain ⟨A8, c8, rfl, -, -⟩ := hr8.shape
      obtain ⟨q1, q2, q3⟩ := HK2.out w1 w2 HB1.out hb2
      have HF := Lib.hid (HFIN.out w1 HB1.out w2 A9 c9 HR1.out hb2 A8 c8 hr8)
      clear hr8 hb2 k0 k7 k11 kf kl
      go_wp2
      go_ret2
      exact ⟨A9, c9, by rw [HTK.out]; rfl, by rw [HTK.out]; exact HF.out.1, HF.out.2⟩
  · rw [hdu] at hc11 HK1
    have hn1 : 0 < n := by have := HK0.out; omega
    have hl1 : ¬ l = 0 := by have := HK0.out; omega
    have t1 : decide (0 < n) = true := by simpa using hn1
    have t2 : ((l : Int) == 0) = false := by simpa using hl1
    have u3 : (s == 4) = true := by simpa using h4'
    clear hdu hn1 hl1 h4'
    go_enter Try.func43, Try.ntmps43
    go_wp2_with (refine wpList_min _ rfl (.tmp 70) (.tmp 75) 3 3 rfl n (l : Int) (k : Int) rfl rfl hmin ?_)
    refine HC1.out.mono ?_
    rintro e w1 ⟨v, rfl, hr1, hb1⟩
    obtain ⟨A9, c9, rfl, -, -⟩ := hr1.shape
    obtain ⟨k0, k7, k11, kf, kl⟩ := HK1.out w1 hb1
    have HR1 := Lib.hid hr1
    have HB1 := Lib.hid hb1
    have HC2 := Lib.hid (HC2W.out w1 hb1)
    clear hr1 hb1 hc0 hc7 hc10 hc11
    go_wp2_with (refine wpList_slice_lo rfl 23 5 (.tmp 106) (.tmp 107) rfl Try.underlying23 (.slice A' l c') (.int .i64 k) rfl rfl (.slice A2 (l - k) (c' - k)) (hrun _) ?_)
    refine HC2.out.mono ?_
    rintro e w2 ⟨v, rfl, hr8, hb2⟩
    obtain ⟨A8, c8, rfl, -, -⟩ := hr8.shape
    obtain ⟨q1, q2, q3⟩ := HK2.out w1 w2 HB1.out hb2
    have HF := Lib.hid (HFIN.out w1 HB1.out w2 A9 c9 HR1.out hb2 A8 c8 hr8)
    clear hr8 hb2 k0 k7 k11 kf kl
    go_wp2
    go_ret2
    exact ⟨A9, c9, by rw [HTK.out]; rfl, by rw [HTK.out]; exact HF.out.1, HF.out.2⟩
  · rw [hdu] at hc11 HK1
    have hn1 : 0 < n := by have := HK0.out; omega
    have hl1 : ¬ l = 0 := by have := HK0.out; omega
    have t1 : decide (0 < n) = true := by simpa using hn1
    have t2 : ((l : Int) == 0) = false := by simpa using hl1
    have u3 : (s == 4) = false := by simpa using h4'
    clear hdu hn1 hl1 h4'
    go_enter Try.func43, Try.ntmps43
    go_wp2_with (refine wpList_min _ rfl (.tmp 70) (.tmp 75) 3 3 rfl n (l : Int) (k : Int) rfl rfl hmin ?_)
    refine HC1.out.mono ?_
    rintro e w1 ⟨v, rfl, hr1, hb1⟩
    obtain ⟨A9, c9, rfl, -, -⟩ := hr1.shape
    obtain ⟨k0, k7, k11, kf, kl⟩ := HK1.out w1 hb1
    have HR1 := Lib.hid hr1
    have HB1 := Lib.hid hb1
    have HC2 := Lib.hid (HC2W.out w1 hb1)
    clear hr1 hb1 hc0 hc7 hc10 hc11
    go_wp2_with (refine wpList_slice_lo rfl 23 5 (.tmp 106) (.tmp 107) rfl Try.underlying23 (.slice A' l c') (.int .i64 k) rfl rfl (.slice A2 (l - k) (c' - k)) (hrun _) ?_)
    refine HC2.out.mono ?_
    rintro e w2 ⟨v, rfl, hr8, hb2⟩
    obtain ⟨A8, c8, rfl, -, -⟩ := hr8.shape
    obtain ⟨q1, q2, q3⟩ := HK2.out w1 w2 HB1.out hb2
    have HF := Lib.hid (HFIN.out w1 HB1.out w2 A9 c9 HR1.out hb2 A8 c8 hr8)
    clear hr8 hb2 k0 k7 k11 kf kl
    go_wp2
    go_ret2
    exact ⟨A9, c9, by rw [HTK.out]; rfl, by rw [HTK.out]; exact HF.out.1, HF.out.2⟩
set_option maxRecDepth 100000 in
theorem read43 (h : ESt w B g x vo vi xs ys) (hB : B ≤ w.heap.size) (hl : ys.length ≤ 64) (n : Int) :
    Calls Try.prog 43 #[.pointer (some ⟨g, 0, none⟩), .int .i64 n] w (RdP (stRV x ys n) (stRE x ys.length n) w B g vo vi (stRX x ys.length n) xs (stRY x ys n)) := by
  by_cases hz : stRE x ys.length n = 0
  · have e1 : stRV x ys n = ys.take (stRK ys.length n) := if_pos hz
    have e2 : stRX x ys.length n = { x with due := x.due || (decide (0 < stRK ys.length n) && decide (x.st = 4)) } := if_pos hz
    have e3 : stRY x ys n = ys.drop (stRK ys.length n) := if_pos hz
    rw [e1, e2, e3, hz]
    unfold stRE at hz
    split at hz
    · cases hz
    · rename_i h1
      split at hz
      · cases hz
      · rename_i h2
        split at hz
        · split at hz <;> cases hz
        · rename_i h3
          refine read_ok h hB hl n _ rfl (by omega) (by omega) h2 h3 _ ?_
          cases hd : x.due with
          | true => exact .inl ⟨rfl, by simp⟩
          | false =>
            by_cases hk : 0 < stRK ys.length n
            · by_cases hs : x.st = 4
              · exact .inr (.inr (.inl ⟨rfl, hk, hs, by simp [hk, hs]⟩))
              · exact .inr (.inr (.inr ⟨rfl, hk, hs, by simp [hk, hs]⟩))
            · exact .inr (.inl ⟨rfl, by unfold stRK at hk; omega, by simp [hk]⟩)
  · have e1 : stRV x ys n = [] := if_neg hz
    have e2 : stRX x ys.length n = x := if_neg hz
    have e3 : stRY x ys n = ys := if_neg hz
    rw [e1, e2, e3]
    have HBAD := Lib.hid (fun er => rd_bad (er := er) h)
    obtain ⟨A0, c0, A', c', rfl, rfl, h1, h2, h3, h4⟩ := h.look
    have hc0 := (Ob2.blk h).cell 0
    have hc7 := (Ob2.blk h).cell 7
    have hc10 := (Ob2.blk h).cell 10
    rw [show (ecells x (.slice A0 xs.length c0) (.slice A' ys.length c'))[0]? = some (.int .i64 x.st) from rfl] at hc0
    rw [show (ecells x (.slice A0 xs.length c0) (.slice A' ys.length c'))[7]? = some (.slice A' ys.length c') from rfl] at hc7
    rw [show (ecells x (.slice A0 xs.length c0) (.slice A' ys.length c'))[10]? = some (.bool x.fin) from rfl] at hc10
    have hlt := (Ob2.blk h).lt
    clear h e1 e2 e3
    unfold stRE at hz ⊢
    by_cases q1 : n < 0
    · rw [if_pos (.inl q1)]
      have d1 : decide (n < 0) = true := by simpa using q1
      clear q1 hz
      go_enter Try.func43, Try.ntmps43
      go_wp2
      go_ret2
      exact HBAD.out 1
    have d1 : decide (n < 0) = false := by simpa using q1
    by_cases q2 : 256 < n
    · rw [if_pos (.inr q2)]
      have d2 : decide (256 < n) = true := by simpa using q2
      clear q1 q2 hz
      go_enter Try.func43, Try.ntmps43
      go_wp2
      go_ret2
      exact HBAD.out 1
    have d2 : decide (256 < n) = false := by simpa using q2
    rw [if_neg (by omega)] at hz ⊢
    by_cases q3 : x.st = 0
    · rw [if_pos (.inl q3)]
      have d3 : (x.st == 0) = true := by simpa using q3
      generalize x.st = s at *
      clear q1 q2 q3 hz
      go_enter Try.func43, Try.ntmps43
      go_wp2
      go_ret2
      exact HBAD.out 8
    have d3 : (x.st == 0) = false := by simpa using q3
    by_cases q4 : x.st = 1
    · rw [if_pos (.inr q4)]
      have d4 : (x.st == 1) = true := by simpa using q4
      generalize x.st = s at *
      clear q1 q2 q3 q4 hz
      go_enter Try.func43, Try.ntmps43
      go_wp2
      go_ret2
      exact HBAD.out 8
    have d4 : (x.st == 1) = false := by simpa using q4
    rw [if_neg (by omega)] at hz ⊢
    by_cases q5 : 0 < n ∧ ys.length = 0 ∧ x.fin = false
    · rw [if_pos q5]
      have d5 : decide (0 < n) = true := by simpa using q5.1
      have d6 : ((ys.length : Int) == 0) = true := by simpa using q5.2.1
      rw [q5.2.2] at hc10
      by_cases q6 : x.st = 5
      · rw [if_pos q6]
        have d7 : (x.st == 5) = true := by simpa using q6
        generalize x.st = s at *
        generalize ys.length = l at *
        clear q1 q2 q3 q4 q5 q6 hz
        go_enter Try.func43, Try.ntmps43
        go_wp2
        go_ret2
        exact HBAD.out 10
      · rw [if_neg q6]
        have d7 : (x.st == 5) = false := by simpa using q6
        generalize x.st = s at *
        generalize ys.length = l at *
        clear q1 q2 q3 q4 q5 q6 hz
        go_enter Try.func43, Try.ntmps43
        go_wp2
        go_ret2
        exact HBAD.out 9
    · rw [if_neg q5] at hz
      exact absurd rfl hz
end
end Go.Proofs.Ythlhjaacjhlkhaa
