/- Contracts of the pipes' Write and List. -/
import Derived.Test.YthlhjaacjhlkhaaPpF
namespace Go.Proofs.Ythlhjaacjhlkhaa
open Go.RowKit
set_option maxHeartbeats 400000
set_option linter.unusedVariables false
set_option linter.unusedSimpArgs false
theorem write_fail {F : Fs} {id : Int} {xs : List Int} (h : writeE F id xs ≠ 0) : writeN F id xs = 0 ∧ writeF F id xs = F := by
  unfold writeN writeF
  rw [if_pos h, if_pos h]
  exact ⟨rfl, rfl⟩
theorem write_arg {F : Fs} {id : Int} {xs : List Int} (h : 256 < xs.length) : writeE F id xs = 1 := by unfold writeE; rw [if_pos h]
theorem write_err {F : Fs} {id x : Int} {xs : List Int} (h : ¬ 256 < xs.length) (hx : errE F id 1 = x) (h0 : x ≠ 0) : writeE F id xs = x := by unfold writeE; rw [if_neg h, if_pos (by rw [hx]; exact h0), hx]
theorem write_ok {F : Fs} {i : Nat} {xs : List Int} {p : Pp} (hn : ¬ 256 < xs.length) (hi : i < 16) (hp : F i = some p) (h : errE F ((i : Int) + 1) 1 = 0) :
    (p.r = 0 ∧ writeE F ((i : Int) + 1) xs = 10) ∨ (p.r ≠ 0 ∧ (0 < xs.length ∧ p.bs.length = 64) ∧ writeE F ((i : Int) + 1) xs = 9) ∨
    (p.r ≠ 0 ∧ ¬ (0 < xs.length ∧ p.bs.length = 64) ∧ writeE F ((i : Int) + 1) xs = 0 ∧ writeN F ((i : Int) + 1) xs = (min xs.length (64 - p.bs.length) : Nat) ∧ writeF F ((i : Int) + 1) xs = put F i (some { p with bs := p.bs ++ xs.take (64 - p.bs.length) })) := by
  have ha : at1 F ((i : Int) + 1) = some p := (at1_of hi).trans hp
  by_cases h1 : p.r = 0
  · exact .inl ⟨h1, by unfold writeE; rw [if_neg hn, if_neg (by rw [h]; simp), ha]; exact if_pos h1⟩
  · by_cases hh : 0 < xs.length ∧ p.bs.length = 64
    · exact .inr (.inl ⟨h1, hh, by unfold writeE; rw [if_neg hn, if_neg (by rw [h]; simp), ha]; dsimp only; rw [if_neg h1, if_pos hh]⟩)
    · have h2 : writeE F ((i : Int) + 1) xs = 0 := by unfold writeE; rw [if_neg hn, if_neg (by rw [h]; simp), ha]; dsimp only; rw [if_neg h1, if_neg hh]
      refine .inr (.inr ⟨h1, hh, h2, ?_, ?_⟩)
      · unfold writeN; rw [if_neg (by rw [h2]; simp), ha]
      · unfold writeF; rw [if_neg (by rw [h2]; simp), ha, show ((i : Int) + 1 - 1).toNat = i by omega]
def RetW (W : World) (B g : Nat) (F : Fs) (b : Nat → Nat) (v : Nat → Value) (id : Int) (xs : List Int) (e : Ending) (w' : World) : Prop :=
  e = .returned (.tuple #[.int .i64 (writeN F id xs), .int .i64 (writeE F id xs)]) ∧ RGo W B g F b v (writeF F id xs) w'
theorem wr_bad {W : World} {B g : Nat} {F : Fs} {b : Nat → Nat} {v : Nat → Value} {id x : Int} {xs : List Int} (hx : writeE F id xs = x) (h0 : x ≠ 0) (hG : RGo W B g F b v F W) : RetW W B g F b v id xs (.returned (.tuple #[.int .i64 0, .int .i64 x])) W := by
  obtain ⟨h1, h2⟩ := write_fail (F := F) (id := id) (xs := xs) (by rw [hx]; exact h0)
  exact ⟨by rw [h1, hx], by rw [h2]; exact hG⟩
section
variable {w : World} {B g : Nat} {F : Fs} {b : Nat → Nat} {v : Nat → Value} {i : Nat} {p : Pp}
set_option maxHeartbeats 2000000 in
set_option maxRecDepth 100000 in
theorem write_any (h : Re w B g F b v) (hB : B ≤ w.heap.size) (id : Int) (A2 : Option Addr) (n2 cc : Nat) (xs : List Int) (BB : Nat) (hx : RB w BB A2 n2 xs) (hnc : n2 ≤ cc) (hcc : cc ≤ 9223372036854775807) : Calls Try.prog 32 #[.pointer (some ⟨g, 0, none⟩), .int .i64 id, .slice A2 n2 cc] w (RetW w B g F b v id xs) := by
  have HP := Lib.hid h.refl
  have hlx := hx.len
  by_cases hn : 256 < xs.length
  · have HE := Lib.hid (write_arg (F := F) (id := id) hn)
    have hd : decide ((256 : Int) < n2) = true := by simp; omega
    clear h
    go_enter Try.func32, Try.ntmps32
    go_wp2
    go_ret2
    exact wr_bad HE.out (by decide) HP.out
  · have hd : decide ((256 : Int) < n2) = false := by simp; omega
    by_cases h0 : errE F id 1 = 0
    · obtain ⟨i, p, hi, rfl, hp, he, hz, ha⟩ := errE_zero h0
      have HE := Lib.hid (end_ok h hi hp he hz)
      obtain ⟨o1, o2, o3, o4⟩ := h.ob i p hi hp
      obtain ⟨k1, k2, k3, k4, k5, k6⟩ := o4
      obtain ⟨A0, n0, hv0, hn0, hm0⟩ := o2.shape
      have c0 := o1.cell 0
      have c1 := o1.cell 1
      have c2 := o1.cell 2
      have f2 := o1.free 2
      have hl := o1.lt
      rw [hv0] at c2
      dsimp at c0 c1 c2
      rcases write_ok hn hi hp h0 with ⟨hr0, hr⟩ | ⟨hr0, ⟨hh1, hh2⟩, hr⟩ | ⟨hr0, hh, hr, hr2, hr3⟩
      · have HR := Lib.hid hr
        rw [hr0] at c0
        clear h hp hn h0 ha hr hr0 hz o2
        go_enter Try.func32, Try.ntmps32
        go_wp2_with fail
        refine HE.out.mono ?_
        rintro x w' ⟨rfl, rfl⟩
        go_wp2
        go_ret2
        exact wr_bad HR.out (by decide) HP.out
      · have HR := Lib.hid hr
        have hd2 : (p.r == 0) = false := by simpa using hr0
        rw [hh2] at c2
        have hn2p : 0 < n2 := by omega
        clear h hp hn h0 ha hr hr0 hz o2 hh1 hh2
        go_enter Try.func32, Try.ntmps32
        go_wp2_with fail
        refine HE.out.mono ?_
        rintro x w' ⟨rfl, rfl⟩
        go_wp2
        go_ret2
        exact wr_bad HR.out (by decide) HP.out
      · obtain ⟨bs, hbs⟩ : ∃ bs, p.bs = bs := ⟨_, rfl⟩
        rw [hbs] at hh hr2 hr3 k5 k6 o2 c2 hv0 hn0
        obtain ⟨l, hll⟩ : ∃ l, bs.length = l := ⟨_, rfl⟩
        rw [hll] at hh hr2 hr3 k5 o2 c2 hv0 hn0
        rw [hlx] at hh
        obtain ⟨nn, hnn⟩ : ∃ nn, min xs.length (64 - l) = nn := ⟨_, rfl⟩
        rw [hnn] at hr2
        rw [take_min, Nat.min_comm, hnn] at hr3
        have hnx : nn ≤ n2 := by omega
        have hsum : l + nn ≤ 64 := by omega
        have hmin : min (n2 : Int) (64 - (l : Int)) = nn := by omega
        obtain ⟨i0, ii, hz0, hz1, hz2⟩ := info_parts pu8info
        rw [hv0] at o2
        have hrd := hx.1.take hnx
        rw [Nat.mul_one, ← List.map_take] at hrd
        have HRD := Lib.hid hrd.drew
        have HROW := Lib.hid o2.drew
        have HO1 := Lib.hid o1.drew
        have HFIN : Hid (∀ A9 c9 w9, Row w9 B 5 1 (.slice A9 (l + nn) c9) (l + nn) (bs.map (Value.int .u8) ++ (xs.take nn).map (Value.int .u8)) → w.drew.grownBy w9 (Value.slice A0 l n0).ownBlock → ((Value.slice A9 (l + nn) c9).ownBlock = (Value.slice A0 l n0).ownBlock ∨ (Value.slice A9 (l + nn) c9).ownBlock = some w.drew.heap.size) → RGo w B g F b v (put F i (some { p with bs := bs ++ xs.take nn })) (w9.setCell ⟨b i, 2, none⟩ (.slice A9 (l + nn) c9))) := Lib.hid (fun A9 c9 w9 hr9 hg9 ho9 => by
          have hvb : (Value.slice A0 l n0).ownBlock ≠ some (b i) := pp_row_blk o2 o1 (by decide)
          have hf0 : Fr (fun k => k = b i ∨ (v i).ownBlock = some k) w w9 := ((Fr.refl _ w).drew).grown hg9 (fun k e _ => .inr (by rw [hv0]; exact e))
          have hf : Fr (fun k => k = b i ∨ (v i).ownBlock = some k) w (w9.setCell ⟨b i, 2, none⟩ (.slice A9 (l + nn) c9)) := Fr.setCell (S := fun k => k = b i ∨ (v i).ownBlock = some k) hf0 (p := ⟨b i, 2, none⟩) (fun _ => .inl rfl) _
          have hlb := o1.lt
          have hbk : Blk w9 (b i) #[.int .i64 p.r, .int .i64 p.w, v i] 118 := o1.drew.grown hg9 (fun e => hvb e.symm)
          have hlen : (bs ++ xs.take nn).length = l + nn := by rw [List.length_append, List.length_take, hll]; omega
          have hne9 : (Value.slice A9 (l + nn) c9).ownBlock ≠ some (b i) := fun e => by
            rcases ho9 with e2 | e2
            · exact hvb (e2.symm.trans e)
            · rw [e2] at e; injection e with e; simp at e; omega
          refine h.put hi hp (x := .slice A9 (l + nn) c9) (p' := { p with bs := bs ++ xs.take nn }) hf ?_ ?_ (fun k hk => ?_) ⟨k1, k2, k3, k4, by dsimp only; omega, fun y hy => ?_⟩
          · have := hbk.set 2 (.slice A9 (l + nn) c9)
            simpa using this
          · dsimp only
            rw [hlen, List.map_append]
            exact hr9.setCell (p := ⟨b i, 2, none⟩) hne9 _
          · rcases ho9 with e2 | e2
            · left; rw [hv0]; exact e2.symm.trans hk
            · rw [e2] at hk; injection hk with hk; right; simp at hk; omega
          · rcases List.mem_append.1 hy with e | e
            · exact k6 y e
            · exact hx.2 y (List.mem_of_mem_take e))
        have HRN := Lib.hid hr2
        have HRF := Lib.hid hr3
        have HR := Lib.hid hr
        have hd2 : (p.r == 0) = false := by simpa using hr0
        have hnc2 : nn ≤ cc := by omega
        have hl64 : l ≤ 64 := k5
        clear h hp hn h0 ha hr hr2 hr3 hr0 hz o2 o1 hrd k6 hv0 hll hx hlx
        rcases (by omega : n2 = 0 ∨ 0 < n2) with hk0 | hk0
        · have hk0' : ¬ 0 < n2 := by omega
          clear hk0 hh
          go_enter Try.func32, Try.ntmps32
          go_wp2_with fail
          refine HE.out.mono ?_
          rintro x w' ⟨rfl, rfl⟩
          go_wp2_with (refine wpList_min _ rfl (.tmp 44) (.tmp 50) 3 3 rfl (n2 : Int) (64 - (l : Int)) (nn : Int) rfl rfl hmin ?_)
          go_region_law (first | (refine step_append_row rfl (.tmp 56) (.tmp 59) 23 rfl B 5 i0 (.int .u8 0) 1 1 Try.underlying23 ii hz0 hz1 hz2 rfl (by decide) (.slice A0 l n0) l (bs.map (Value.int .u8)) (by simp [Act.eval, Act.put]) HROW.out BB A2 nn cc ((xs.take nn).map (Value.int .u8)) (by simp [Act.eval, Act.put]) HRD.out (u8_oneCell _) (by unfold maxLen; omega) (by omega) (by simpa using hB) ?_; intro A9 c9 w9 hr9 hg9 ho9; have kb9 := HO1.out.fr (Fr.of_grown hg9) (pp_row_blk HROW.out HO1.out (by decide)); have k92 := kb9.cell 2; have kl9 := kb9.lt; have kf9 := kb9.free 2; have HP9 := Lib.hid (HFIN.out A9 c9 w9 hr9 hg9 ho9); clear kb9 hr9 hg9 ho9) | fail)
          all_goals
            go_wp2
            go_ret2
            exact ⟨by rw [HR.out, HRN.out]; rfl, by rw [HRF.out]; exact HP9.out⟩
        · have hd4 : ((l : Int) == 64) = false := by rw [beq_eq_false_iff_ne]; omega
          clear hh
          go_enter Try.func32, Try.ntmps32
          go_wp2_with fail
          refine HE.out.mono ?_
          rintro x w' ⟨rfl, rfl⟩
          go_wp2_with (refine wpList_min _ rfl (.tmp 44) (.tmp 50) 3 3 rfl (n2 : Int) (64 - (l : Int)) (nn : Int) rfl rfl hmin ?_)
          go_region_law (first | (refine step_append_row rfl (.tmp 56) (.tmp 59) 23 rfl B 5 i0 (.int .u8 0) 1 1 Try.underlying23 ii hz0 hz1 hz2 rfl (by decide) (.slice A0 l n0) l (bs.map (Value.int .u8)) (by simp [Act.eval, Act.put]) HROW.out BB A2 nn cc ((xs.take nn).map (Value.int .u8)) (by simp [Act.eval, Act.put]) HRD.out (u8_oneCell _) (by unfold maxLen; omega) (by omega) (by simpa using hB) ?_; intro A9 c9 w9 hr9 hg9 ho9; have kb9 := HO1.out.fr (Fr.of_grown hg9) (pp_row_blk HROW.out HO1.out (by decide)); have k92 := kb9.cell 2; have kl9 := kb9.lt; have kf9 := kb9.free 2; have HP9 := Lib.hid (HFIN.out A9 c9 w9 hr9 hg9 ho9); clear kb9 hr9 hg9 ho9) | fail)
          all_goals
            go_wp2
            go_ret2
            exact ⟨by rw [HR.out, HRN.out]; rfl, by rw [HRF.out]; exact HP9.out⟩
    · obtain ⟨x, hx0⟩ : ∃ x, errE F id 1 = x := ⟨_, rfl⟩
      rw [hx0] at h0
      have HR := Lib.hid (write_err hn hx0 h0)
      have HE := Lib.hid (end_err h hx0 h0)
      have HX := Lib.hid h0
      have hd3 : (x != 0) = true := by simpa using h0
      clear h hx0 h0 hn
      go_enter Try.func32, Try.ntmps32
      go_wp2_with fail
      refine HE.out.mono ?_
      rintro y w' ⟨rfl, rfl⟩
      go_wp2
      go_ret2
      exact wr_bad HR.out HX.out HP.out
theorem run_index111 (w : World) (cs : Array Value) (j : Nat) (u : Value) (hj : j < 16) (h : cs[j]? = some u) (hp : ∃ a, u = .pointer a) : (Instr.index 111 (.agg cs) (.int .i64 j)).run Try.prog w = .ok u w := by
  have h0 : (0 : Int) ≤ j ∧ (j : Int) < (16 : Nat) := by omega
  obtain ⟨a, rfl⟩ := hp
  simp [Instr.index, run_underlying Try.underlying111, asIntOf, h0, go_sem, part, h]
  intro h64
  omega
theorem ptrA_is (F : Fs) (b : Nat → Nat) (j : Nat) : ∃ a, ptrA F b j = .pointer a := by
  unfold ptrA
  split
  · exact ⟨_, rfl⟩
  · exact ⟨_, rfl⟩
theorem parr_at (F : Fs) (b : Nat → Nat) {m : Nat} (h : m < 16) : (#[ptrA F b 0, ptrA F b 1, ptrA F b 2, ptrA F b 3, ptrA F b 4, ptrA F b 5, ptrA F b 6, ptrA F b 7, ptrA F b 8, ptrA F b 9, ptrA F b 10, ptrA F b 11, ptrA F b 12, ptrA F b 13, ptrA F b 14, ptrA F b 15] : Array Value)[m]? = some (ptrA F b m) := by
  rcases (by omega : m = 0 ∨ m = 1 ∨ m = 2 ∨ m = 3 ∨ m = 4 ∨ m = 5 ∨ m = 6 ∨ m = 7 ∨ m = 8 ∨ m = 9 ∨ m = 10 ∨ m = 11 ∨ m = 12 ∨ m = 13 ∨ m = 14 ∨ m = 15) with rfl | rfl | rfl | rfl | rfl | rfl | rfl | rfl | rfl | rfl | rfl | rfl | rfl | rfl | rfl | rfl <;> rfl
theorem lo_succ (F : Fs) (k : Nat) : lo F (k + 1) = lo F k ++ one F k := by
  unfold lo
  rw [recs_add, Nat.zero_add, recs_succ]
  simp [recs]
def idv (x : Pr) : Value := .int .i64 x.id
def RetL (w : World) (F : Fs) (e : Ending) (w' : World) : Prop := ∃ A n c, e = .returned (.slice A n c) ∧ Row w' w.heap.size 3 1 (.slice A n c) n ((allR F).map idv) ∧ Below w.heap.size w w'
theorem pintinfo : (Try.prog.info? 3).map (fun i => (i.zero, i.size, i.bytes)) = some (some (.int .i64 0), 1, 8) := by kernel_rfl
set_option maxHeartbeats 2000000 in
set_option maxRecDepth 100000 in
theorem list_any (h : Re w B g F b v) : Calls Try.prog 36 #[.pointer (some ⟨g, 0, none⟩)] w (RetL w F) := by
  obtain ⟨i0, ii, hz0, hz1, hz2⟩ := info_parts pintinfo
  have q0 := (h.blk.cell 0).trans (cellsA_at F b (i := 0) (by decide))
  have q1 := (h.blk.cell 1).trans (cellsA_at F b (i := 1) (by decide))
  have q2 := (h.blk.cell 2).trans (cellsA_at F b (i := 2) (by decide))
  have q3 := (h.blk.cell 3).trans (cellsA_at F b (i := 3) (by decide))
  have q4 := (h.blk.cell 4).trans (cellsA_at F b (i := 4) (by decide))
  have q5 := (h.blk.cell 5).trans (cellsA_at F b (i := 5) (by decide))
  have q6 := (h.blk.cell 6).trans (cellsA_at F b (i := 6) (by decide))
  have q7 := (h.blk.cell 7).trans (cellsA_at F b (i := 7) (by decide))
  have q8 := (h.blk.cell 8).trans (cellsA_at F b (i := 8) (by decide))
  have q9 := (h.blk.cell 9).trans (cellsA_at F b (i := 9) (by decide))
  have q10 := (h.blk.cell 10).trans (cellsA_at F b (i := 10) (by decide))
  have q11 := (h.blk.cell 11).trans (cellsA_at F b (i := 11) (by decide))
  have q12 := (h.blk.cell 12).trans (cellsA_at F b (i := 12) (by decide))
  have q13 := (h.blk.cell 13).trans (cellsA_at F b (i := 13) (by decide))
  have q14 := (h.blk.cell 14).trans (cellsA_at F b (i := 14) (by decide))
  have q15 := (h.blk.cell 15).trans (cellsA_at F b (i := 15) (by decide))
  have hl := h.blk.lt
  have HE := Lib.hid (eq_nil)
  clear h
  go_enter Try.func36, Try.ntmps36
  go_wp2_with fail
  clear q0 q1 q2 q3 q4 q5 q6 q7 q8 q9 q10 q11 q12 q13 q14 q15
  go_loopw [3, 10] (fun v3 x wr => ∃ k : Nat, x = .int .i64 k ∧ k ≤ 16 ∧ Row wr w.heap.size 3 1 v3 (lo F k).length ((lo F k).map idv) ∧ Below w.heap.size w wr) (fun _ x _ => 16 - (intOf x).toNat)
  case atStart => exact ⟨0, rfl, by omega, Row.nil _ _ _ _, Below.refl _ _⟩
  case round =>
    obtain ⟨k, rfl, hk, hr, hb⟩ := hrel
    have HB := Lib.hid hb
    have HR := Lib.hid hr
    have HLS := Lib.hid (lo_succ F k)
    have hlen := recs_len F 0 k
    obtain ⟨A3, c3, rfl, -, -⟩ := hr.shape
    clear hb hr
    by_cases hk16 : k < 16
    · have hki : (k : Int) < 16 := by omega
      have hix := run_index111 wr _ k _ hk16 (parr_at F b hk16) (ptrA_is F b k)
      cases hF : F k with
      | none =>
        rw [ptrA_none hF] at hix
        have HO := Lib.hid (one_none hF)
        clear hF
        go_wp2
        go_roundw
        case rel => exact ⟨k + 1, by go_num, by omega, by rw [HLS.out, HO.out, List.append_nil]; exact HR.out, HB.out⟩
        case measure => simp [intOf]; omega
      | some p =>
        rw [ptrA_some hF] at hix
        have HO := Lib.hid (one_some hF)
        clear hF
        have hll : (lo F k).length ≤ 16 := by unfold lo; omega
        go_wp2_with (at_builtin; refine wpList_append_row _ rfl (.tmp 16) (.tmp 19) 56 rfl w.heap.size 3 i0 (.int .i64 0) 1 8 Try.underlying56 ii hz0 hz1 hz2 rfl (by decide) (.slice A3 (lo F k).length c3) (lo F k).length ((lo F k).map idv) rfl (HR.out.alloc _) (wr.heap.size + 1) (some ⟨wr.heap.size, 0, none⟩) 1 1 [.int .i64 ((k : Int) + 1)] rfl ?c1 (by simp [Value.oneCell']) (by unfold maxLen; omega) (by omega) ?c2 ?_; rotate_left; skip)
        case c1 => exact ⟨rfl, fun _ => ⟨wr.heap.size, 0, rfl, by omega, fun j u hu => by rw [Nat.zero_add]; rw [(Blk.new wr #[.int .i64 ((k : Int) + 1)] 3).cell]; simpa using hu⟩⟩
        case c2 => have := HB.out.size; simp; omega
        intro A9 c9 w9 hr9 hg9 ho9
        have HR9 : Hid (Row w9 w.heap.size 3 1 (.slice A9 ((lo F k).length + 1) c9) (lo F (k + 1)).length ((lo F (k + 1)).map idv)) := Lib.hid (by
          rw [HLS.out, HO.out, List.length_append, List.map_append]
          exact hr9)
        have HB9 : Hid (Below w.heap.size w w9) := Lib.hid ((HB.out.alloc HB.out.size _).grown hg9 (by have := HB.out.size; simp; omega) (fun j hj => (HR.out.lt j hj).1))
        clear hr9 hg9 ho9
        go_wp2
        go_roundw
        case rel => exact ⟨k + 1, by go_num, by omega, HR9.out, HB9.out⟩
        case measure => simp [intOf]; omega
    · obtain rfl : k = 16 := by omega
      have HF : Hid (Row wr w.heap.size 3 1 (.slice A3 (allR F).length c3) (allR F).length ((allR F).map idv)) := HR
      clear HLS hlen
      go_wp2
      go_ret
      exact ⟨A3, _, c3, rfl, HF.out, HB.out⟩
end
end Go.Proofs.Ythlhjaacjhlkhaa
