/- Contract of Decode's third closure; of reader.many with each of the three. -/
import Derived.Test.YtgmpcdonmlhohaaOrD
namespace Go.Proofs.Ytgmpcdonmlhohaa
open Go.RowKit
set_option maxHeartbeats 400000
set_option linter.unusedVariables false
set_option linter.unusedSimpArgs false
theorem one_nd1 (s : ByteArray) (ad k : Int) : ∀ u ∈ [Value.int .i64 ad, .string s, .int .i64 k], u.oneCell' = true := by
  intro u hu
  simp at hu
  rcases hu with rfl | rfl | rfl <;> rfl
theorem w46_done {W w5 w9 : World} {B q g ob : Nat} {s s3 : Rst} {v0 v1 vN v3 : Value} {ws bs : List Int} {ns : List Nm} {ds : List Nd} {tx : ByteArray} {a b : Int} {A9 : Option Addr} {c9 : Nat} {X : Obj}
    (h1 : Below B W w5) (hB : B ≤ w5.heap.size) (h8 : DS (w5.alloc X) B q g ob s3 v0 v1 vN v3 ws bs ns ds) (hw : ndR s = (⟨b, tx, a⟩, s3))
    (hr : Row w9 B 79 3 (.slice A9 (ds.length + 1) c9) (ds.length + 1) (ds.flatMap Nd.cells ++ [.int .i64 b, .string tx, .int .i64 a])) (hg : (w5.alloc X).grownBy w9 v3.ownBlock) (ht : tx.size ≤ 9223372036854775807) (ha : 0 ≤ a ∧ a < 65536) (hb : 0 ≤ b ∧ b < 65536) :
    NdP W B q g ob s v0 v1 vN ws bs ns ds (.returned (.tuple #[])) (w9.setCell ⟨ob, 3, none⟩ (.slice A9 (ds.length + 1) c9)) := by
  have e : (ds ++ [(⟨b, tx, a⟩ : Nd)]).length = ds.length + 1 := by simp
  obtain ⟨r1, r2⟩ := h8.put3 (v' := .slice A9 (ds.length + 1) c9) (zs := ds ++ [⟨b, tx, a⟩]) (Fr.of_grown hg) (by rw [e]; exact ⟨A9, c9, rfl, by rw [List.flatMap_append]; exact hr⟩) (fun y hy => by
    rcases List.mem_append.1 hy with h | h
    · exact h8.fd y h
    · simp at h
      subst h
      exact ⟨ht, fine_int hb, fine_int ha⟩)
  refine ⟨rfl, .slice A9 (ds.length + 1) c9, ?_, (h1.alloc hB X).trans r2⟩
  rw [hw]
  exact r1
set_option maxHeartbeats 1000000 in
set_option maxRecDepth 100000 in
theorem cl46 (W : World) (B q g ob : Nat) (s : Rst) (v0 v1 vN v3 : Value) (ws bs : List Int) (ns : List Nm) (ds : List Nd) (h : DS W B q g ob s v0 v1 vN v3 ws bs ns ds) (hn : ds.length ≤ 70000) :
    Calls Try.prog 46 #[.pointer (some ⟨q, 0, none⟩), .pointer (some ⟨ob, 0, none⟩)] W (NdP W B q g ob s v0 v1 vN ws bs ns ds) := by
  obtain ⟨i0, hi, hz0, hz1, hz2⟩ := info_parts infoD
  have hcv := h.var.cell
  have hlv := h.var.lt
  have H0 := Lib.hid h
  obtain ⟨tx, s1, hs1, ra0, hb1⟩ := text_split s h.rd.byt
  obtain ⟨a, s2, hs2, rb0, rb1, hb2⟩ := half_split s1 hb1
  obtain ⟨b, s3, hs3, rc0, rc1, hb3⟩ := half_split s2 hb2
  have HW : Hid (ndR s = (⟨b, tx, a⟩, s3)) := Lib.hid (by unfold ndR; rw [hs1]; dsimp only; rw [hs2]; dsimp only; rw [hs3])
  have HS1 := Lib.hid hs1
  have HS2 := Lib.hid hs2
  have HS3 := Lib.hid hs3
  clear hs1 hs2 hs3 hb1 hb2 hb3 h
  go_enter Try.func46, Try.ntmps46
  go_wp2_with fail
  refine (text_at g B s s1 tx W H0.out.rd H0.out.lg HS1.out).mono ?_
  rintro e w1 ⟨rfl, hd, hf⟩
  have H1 := Lib.hid (H0.out.step hd hf)
  have HB1 := Lib.hid (hf.below H0.out.low (fun k e => e ▸ H0.out.lg))
  clear hd hf hcv hlv
  go_upto_region 1 with (fail)
  have HL1 := Lib.hid (DL.new H1.out #[.int .i64 0, .string tx, .int .i64 0] 79)
  have HB2 := Lib.hid (HB1.out.trans ((Below.refl B w1).alloc H1.out.low (.cells #[.int .i64 0, .string tx, .int .i64 0] 79)))
  clear H1 HB1
  generalize w1.alloc (.cells #[.int .i64 0, .string tx, .int .i64 0] 79) = w2 at *
  generalize w1.heap.size = k at *
  have hcv := HL1.out.ds.var.cell
  have hlv := HL1.out.ds.var.lt
  go_wp2_with fail
  refine (half_at g B s1 s2 a w2 HL1.out.ds.rd HL1.out.ds.lg HS2.out).mono ?_
  rintro e w3 ⟨rfl, hd, hf⟩
  have HL3 := Lib.hid ((HL1.out.step (by decide) hd hf).set (.inr rfl) 2 (.int .i64 a))
  have HB3 := Lib.hid ((HB2.out.trans (hf.below HL1.out.ds.low (fun k e => e ▸ HL1.out.ds.lg))).setCell (p := ⟨k, 2, none⟩) HL1.out.low (.int .i64 a))
  have hxk := (HL1.out.step (by decide) hd hf).blk.cell 2
  have hxl := (HL1.out.step (by decide) hd hf).blk.lt
  have hxf := (HL1.out.step (by decide) hd hf).blk.free 2
  clear hd hf hcv hlv HL1 HB2
  go_upto_region 2 with (fail)
  clear hxk hxl hxf
  generalize w3.setCell ⟨k, 2, none⟩ (.int .i64 a) = w3' at *
  have hcv := HL3.out.ds.var.cell
  have hlv := HL3.out.ds.var.lt
  go_wp2_with fail
  refine (half_at g B s2 s3 b w3' HL3.out.ds.rd HL3.out.ds.lg HS3.out).mono ?_
  rintro e w4 ⟨rfl, hd, hf⟩
  have HL5 := Lib.hid ((HL3.out.step (by decide) hd hf).set (.inr rfl) 0 (.int .i64 b))
  have HB5 := Lib.hid ((HB3.out.trans (hf.below HL3.out.ds.low (fun k e => e ▸ HL3.out.ds.lg))).setCell (p := ⟨k, 0, none⟩) HL3.out.low (.int .i64 b))
  have hxk := (HL3.out.step (by decide) hd hf).blk.cell 0
  have hxl := (HL3.out.step (by decide) hd hf).blk.lt
  have hxf := (HL3.out.step (by decide) hd hf).blk.free 0
  clear hd hf hcv hlv HL3 HB3
  go_upto_region 3 with (fail)
  clear hxk hxl hxf
  generalize w4.setCell ⟨k, 0, none⟩ (.int .i64 b) = w5 at *
  have hck := HL5.out.blk.cell
  have hlk := HL5.out.blk.lt
  have hcb := HL5.out.ds.blk.cell
  have hlb := HL5.out.ds.blk.lt
  obtain ⟨A0, c0, rfl, -⟩ := HL5.out.ds.o3
  have HA := Lib.hid (HL5.out.ds.alloc (.cells #[.int .i64 b, .string tx, .int .i64 a] 79))
  have HRD := Lib.hid (ob_reads w5 79 3 1 [.int .i64 b, .string tx, .int .i64 a] rfl)
  go_wp2_with (at_builtin; refine wpList_append_row _ rfl (.tmp 13) (.tmp 15) 32 rfl B 79 i0 (.agg #[.int .i64 0, .string ByteArray.empty, .int .i64 0]) 3 32 Try.underlying32 hi hz0 hz1 hz2 rfl (by decide) (.slice A0 ds.length c0) ds.length (ds.flatMap Nd.cells) rfl HA.out.o3.row (w5.heap.size + 1) (some ⟨w5.heap.size, 0, none⟩) 1 1 [.int .i64 b, .string tx, .int .i64 a] rfl HRD.out (one_nd1 tx b a) (by unfold maxLen; omega) (by omega) HA.out.low ?_)
  intro A9 c9 w9 hr9 hg9 ho9
  have kb9 := HA.out.blk.fr (Fr.of_grown hg9) (fun e => HA.out.o3.ne_blk HA.out.blk (by decide) e)
  have k90 := kb9.cell 3
  have kl9 := kb9.lt
  have kf9 := kb9.free 3
  have HP9 := Lib.hid (w46_done HB5.out HL5.out.ds.low HA.out HW.out hr9 hg9 (by omega) ⟨rb0, rb1⟩ ⟨rc0, rc1⟩)
  clear kb9 hr9 hg9 ho9
  go_wp2
  exact bodyPost_ret (v := .tuple #[]) (by simp [results, Try.results46, go_sem]) rfl HP9.out
theorem loop_step {α : Type} (f : Rst → α × Rst) (n : Nat) (xs : List Int) (acc : List α) : loopR f (n + 1) (some xs) acc = loopR f n (f (some xs)).2 (acc ++ [(f (some xs)).1]) := rfl
theorem rd_cell {w : World} {g B : Nat} {s : Rst} (h : Rd w g B s) : ∃ (v : Value) (sh : Bool), (∀ j, w.cell? ⟨g, j, none⟩ = #[v, .bool sh][j]?) ∧ g < w.heap.size ∧ sh = s.isNone := by
  obtain ⟨A, n, c, sh, h1, h2⟩ := h
  refine ⟨_, sh, h1.cell, h1.lt, ?_⟩
  cases s with
  | none => exact h2
  | some xs => exact h2.1
def Many41 (W : World) (B q g ob : Nat) (s : Rst) (v1 vN v3 : Value) (bs : List Int) (ns : List Nm) (ds : List Nd) (e : Ending) (w' : World) : Prop :=
  e = .returned (.tuple #[]) ∧ ∃ v', DS w' B q g ob (manyR wordR s).2 v' v1 vN v3 (manyR wordR s).1 bs ns ds ∧ (manyR wordR s).1.length ≤ 65535 ∧ Below B W w'
def Lp41 (W : World) (B q g ob : Nat) (R : List Int × Rst) (v1 vN v3 : Value) (bs : List Int) (ns : List Nm) (ds : List Nd) (k : Nat) (wr : World) : Prop :=
  ∃ s' acc v', DS wr B q g ob s' v' v1 vN v3 acc bs ns ds ∧ R = loopR wordR k s' acc ∧ acc.length + k ≤ 65535 ∧ Below B W wr
theorem many41_done {W wr : World} {B q g ob : Nat} {s s' : Rst} {v' v1 vN v3 : Value} {acc : List Int} {bs : List Int} {ns : List Nm} {ds : List Nd} (h : DS wr B q g ob s' v' v1 vN v3 acc bs ns ds) (e : manyR wordR s = (acc, s')) (hl : acc.length ≤ 65535) (hb : Below B W wr) : Many41 W B q g ob s v1 vN v3 bs ns ds (.returned (.tuple #[])) wr := by
  unfold Many41; rw [e]; exact ⟨rfl, v', h, hl, hb⟩
set_option maxHeartbeats 1000000 in
set_option maxRecDepth 100000 in
theorem many41 (W : World) (B q g ob : Nat) (s : Rst) (v' v1 vN v3 : Value) (bs : List Int) (ns : List Nm) (ds : List Nd) (h : DS W B q g ob s v' v1 vN v3 [] bs ns ds) :
    Calls Try.prog 40 #[.pointer (some ⟨g, 0, none⟩), .func (.func 41) #[] #[.pointer (some ⟨q, 0, none⟩), .pointer (some ⟨ob, 0, none⟩)]] W (Many41 W B q g ob s v1 vN v3 bs ns ds) := by
  have H0 := Lib.hid h
  obtain ⟨a, s1, hs1, ra0, ra1, hb1⟩ := half_split s h.rd.byt
  have HS1 := Lib.hid hs1
  have HM : Hid (manyR wordR s = loopR wordR a.toNat s1 []) := Lib.hid (by unfold manyR; rw [hs1])
  clear hs1 hb1 h
  obtain ⟨m, rfl⟩ : ∃ m : Nat, a = m := ⟨a.toNat, by omega⟩
  go_enter Try.func40, Try.ntmps40
  go_wp2_with fail
  refine (half_at g B s s1 m W H0.out.rd H0.out.lg HS1.out).mono ?_
  rintro e w1 ⟨rfl, hd, hf⟩
  have H1 := Lib.hid (H0.out.step hd hf)
  have HB1 := Lib.hid (hf.below H0.out.low (fun k e => e ▸ H0.out.lg))
  clear hd hf
  go_wp2_with fail
  go_loopw [4] (fun i wr => ∃ k : Nat, i = .int .i64 k ∧ k ≤ 65535 ∧ Lp41 W B q g ob (manyR wordR s) v1 vN v3 bs ns ds k wr) (fun i _ => (intOf i).toNat)
  case atStart => exact ⟨m, rfl, by omega, s1, [], v', H1.out, by rw [HM.out]; simp, by simp; omega, HB1.out⟩
  case round =>
    obtain ⟨k, rfl, hk, s', acc, vv, hD, hE, hL, hBl⟩ := hrel
    clear H0 H1 HB1 HM HS1
    have HD := Lib.hid hD
    have HE := Lib.hid hE
    have HBL := Lib.hid hBl
    clear hD hE hBl
    obtain ⟨u0, sh, hc1, hlg, hsh⟩ := rd_cell HD.out.rd
    by_cases hk0 : k = 0
    · subst hk0
      have HP := Lib.hid (many41_done HD.out HE.out (by omega) HBL.out)
      clear hsh
      go_wp2
      exact bodyPost_ret (v := .tuple #[]) (by simp [results, Try.results40, go_sem]) rfl HP.out
    · cases s' with
      | none =>
        obtain rfl : sh = true := by simpa using hsh
        clear hsh
        have HP := Lib.hid (many41_done HD.out (HE.out.trans (loopR_none _ _ _)) (by omega) HBL.out)
        have hkp : decide (0 < k) = true := by simp; omega
        have hkq : 0 < k := by omega
        go_wp2
        exact bodyPost_ret (v := .tuple #[]) (by simp [results, Try.results40, go_sem]) rfl HP.out
      | some xs =>
        obtain rfl : sh = false := by simpa using hsh
        clear hsh
        obtain ⟨j, rfl⟩ : ∃ j, k = j + 1 := ⟨k - 1, by omega⟩
        have HC := Lib.hid (cl41 wr B q g ob (some xs) vv v1 vN v3 acc bs ns ds HD.out (by omega))
        have hkp : decide (0 < j + 1) = true := by simp
        go_wp2_with fail
        refine HC.out.mono ?_
        rintro e w2 ⟨rfl, v2, hD2, hB2⟩
        have HD2 := Lib.hid hD2
        have HB2 := Lib.hid (HBL.out.trans hB2)
        clear hD2 hB2 HC hc1 hkp hlg
        go_wp2
        go_roundw
        case rel => exact ⟨j, by go_num, by omega, _, _, v2, HD2.out, HE.out, by rw [List.length_append]; simp; omega, HB2.out⟩
        case measure => simp [intOf]
def Many44 (W : World) (B q g ob : Nat) (s : Rst) (v0 v1 v3 : Value) (ws : List Int) (bs : List Int) (ds : List Nd) (e : Ending) (w' : World) : Prop :=
  e = .returned (.tuple #[]) ∧ ∃ v', DS w' B q g ob (manyR nmR s).2 v0 v1 v' v3 ws bs (manyR nmR s).1 ds ∧ (manyR nmR s).1.length ≤ 65535 ∧ Below B W w'
def Lp44 (W : World) (B q g ob : Nat) (R : List Nm × Rst) (v0 v1 v3 : Value) (ws : List Int) (bs : List Int) (ds : List Nd) (k : Nat) (wr : World) : Prop :=
  ∃ s' acc v', DS wr B q g ob s' v0 v1 v' v3 ws bs acc ds ∧ R = loopR nmR k s' acc ∧ acc.length + k ≤ 65535 ∧ Below B W wr
theorem many44_done {W wr : World} {B q g ob : Nat} {s s' : Rst} {v' v0 v1 v3 : Value} {acc : List Nm} {ws : List Int} {bs : List Int} {ds : List Nd} (h : DS wr B q g ob s' v0 v1 v' v3 ws bs acc ds) (e : manyR nmR s = (acc, s')) (hl : acc.length ≤ 65535) (hb : Below B W wr) : Many44 W B q g ob s v0 v1 v3 ws bs ds (.returned (.tuple #[])) wr := by
  unfold Many44; rw [e]; exact ⟨rfl, v', h, hl, hb⟩
set_option maxHeartbeats 1000000 in
set_option maxRecDepth 100000 in
theorem many44 (W : World) (B q g ob : Nat) (s : Rst) (v' v0 v1 v3 : Value) (ws : List Int) (bs : List Int) (ds : List Nd) (h : DS W B q g ob s v0 v1 v' v3 ws bs [] ds) :
    Calls Try.prog 40 #[.pointer (some ⟨g, 0, none⟩), .func (.func 44) #[] #[.pointer (some ⟨q, 0, none⟩), .pointer (some ⟨ob, 0, none⟩)]] W (Many44 W B q g ob s v0 v1 v3 ws bs ds) := by
  have H0 := Lib.hid h
  obtain ⟨a, s1, hs1, ra0, ra1, hb1⟩ := half_split s h.rd.byt
  have HS1 := Lib.hid hs1
  have HM : Hid (manyR nmR s = loopR nmR a.toNat s1 []) := Lib.hid (by unfold manyR; rw [hs1])
  clear hs1 hb1 h
  obtain ⟨m, rfl⟩ : ∃ m : Nat, a = m := ⟨a.toNat, by omega⟩
  go_enter Try.func40, Try.ntmps40
  go_wp2_with fail
  refine (half_at g B s s1 m W H0.out.rd H0.out.lg HS1.out).mono ?_
  rintro e w1 ⟨rfl, hd, hf⟩
  have H1 := Lib.hid (H0.out.step hd hf)
  have HB1 := Lib.hid (hf.below H0.out.low (fun k e => e ▸ H0.out.lg))
  clear hd hf
  go_wp2_with fail
  go_loopw [4] (fun i wr => ∃ k : Nat, i = .int .i64 k ∧ k ≤ 65535 ∧ Lp44 W B q g ob (manyR nmR s) v0 v1 v3 ws bs ds k wr) (fun i _ => (intOf i).toNat)
  case atStart => exact ⟨m, rfl, by omega, s1, [], v', H1.out, by rw [HM.out]; simp, by simp; omega, HB1.out⟩
  case round =>
    obtain ⟨k, rfl, hk, s', acc, vv, hD, hE, hL, hBl⟩ := hrel
    clear H0 H1 HB1 HM HS1
    have HD := Lib.hid hD
    have HE := Lib.hid hE
    have HBL := Lib.hid hBl
    clear hD hE hBl
    obtain ⟨u0, sh, hc1, hlg, hsh⟩ := rd_cell HD.out.rd
    by_cases hk0 : k = 0
    · subst hk0
      have HP := Lib.hid (many44_done HD.out HE.out (by omega) HBL.out)
      clear hsh
      go_wp2
      exact bodyPost_ret (v := .tuple #[]) (by simp [results, Try.results40, go_sem]) rfl HP.out
    · cases s' with
      | none =>
        obtain rfl : sh = true := by simpa using hsh
        clear hsh
        have HP := Lib.hid (many44_done HD.out (HE.out.trans (loopR_none _ _ _)) (by omega) HBL.out)
        have hkp : decide (0 < k) = true := by simp; omega
        have hkq : 0 < k := by omega
        go_wp2
        exact bodyPost_ret (v := .tuple #[]) (by simp [results, Try.results40, go_sem]) rfl HP.out
      | some xs =>
        obtain rfl : sh = false := by simpa using hsh
        clear hsh
        obtain ⟨j, rfl⟩ : ∃ j, k = j + 1 := ⟨k - 1, by omega⟩
        have HC := Lib.hid (cl44 wr B q g ob (some xs) v0 v1 vv v3 ws bs acc ds HD.out (by omega))
        have hkp : decide (0 < j + 1) = true := by simp
        go_wp2_with fail
        refine HC.out.mono ?_
        rintro e w2 ⟨rfl, v2, hD2, hB2⟩
        have HD2 := Lib.hid hD2
        have HB2 := Lib.hid (HBL.out.trans hB2)
        clear hD2 hB2 HC hc1 hkp hlg
        go_wp2
        go_roundw
        case rel => exact ⟨j, by go_num, by omega, _, _, v2, HD2.out, HE.out, by rw [List.length_append]; simp; omega, HB2.out⟩
        case measure => simp [intOf]
def Many46 (W : World) (B q g ob : Nat) (s : Rst) (v0 v1 vN : Value) (ws : List Int) (bs : List Int) (ns : List Nm) (e : Ending) (w' : World) : Prop :=
  e = .returned (.tuple #[]) ∧ ∃ v', DS w' B q g ob (manyR ndR s).2 v0 v1 vN v' ws bs ns (manyR ndR s).1 ∧ (manyR ndR s).1.length ≤ 65535 ∧ Below B W w'
def Lp46 (W : World) (B q g ob : Nat) (R : List Nd × Rst) (v0 v1 vN : Value) (ws : List Int) (bs : List Int) (ns : List Nm) (k : Nat) (wr : World) : Prop :=
  ∃ s' acc v', DS wr B q g ob s' v0 v1 vN v' ws bs ns acc ∧ R = loopR ndR k s' acc ∧ acc.length + k ≤ 65535 ∧ Below B W wr
theorem many46_done {W wr : World} {B q g ob : Nat} {s s' : Rst} {v' v0 v1 vN : Value} {acc : List Nd} {ws : List Int} {bs : List Int} {ns : List Nm} (h : DS wr B q g ob s' v0 v1 vN v' ws bs ns acc) (e : manyR ndR s = (acc, s')) (hl : acc.length ≤ 65535) (hb : Below B W wr) : Many46 W B q g ob s v0 v1 vN ws bs ns (.returned (.tuple #[])) wr := by
  unfold Many46; rw [e]; exact ⟨rfl, v', h, hl, hb⟩
set_option maxHeartbeats 1000000 in
set_option maxRecDepth 100000 in
theorem many46 (W : World) (B q g ob : Nat) (s : Rst) (v' v0 v1 vN : Value) (ws : List Int) (bs : List Int) (ns : List Nm) (h : DS W B q g ob s v0 v1 vN v' ws bs ns []) :
    Calls Try.prog 40 #[.pointer (some ⟨g, 0, none⟩), .func (.func 46) #[] #[.pointer (some ⟨q, 0, none⟩), .pointer (some ⟨ob, 0, none⟩)]] W (Many46 W B q g ob s v0 v1 vN ws bs ns) := by
  have H0 := Lib.hid h
  obtain ⟨a, s1, hs1, ra0, ra1, hb1⟩ := half_split s h.rd.byt
  have HS1 := Lib.hid hs1
  have HM : Hid (manyR ndR s = loopR ndR a.toNat s1 []) := Lib.hid (by unfold manyR; rw [hs1])
  clear hs1 hb1 h
  obtain ⟨m, rfl⟩ : ∃ m : Nat, a = m := ⟨a.toNat, by omega⟩
  go_enter Try.func40, Try.ntmps40
  go_wp2_with fail
  refine (half_at g B s s1 m W H0.out.rd H0.out.lg HS1.out).mono ?_
  rintro e w1 ⟨rfl, hd, hf⟩
  have H1 := Lib.hid (H0.out.step hd hf)
  have HB1 := Lib.hid (hf.below H0.out.low (fun k e => e ▸ H0.out.lg))
  clear hd hf
  go_wp2_with fail
  go_loopw [4] (fun i wr => ∃ k : Nat, i = .int .i64 k ∧ k ≤ 65535 ∧ Lp46 W B q g ob (manyR ndR s) v0 v1 vN ws bs ns k wr) (fun i _ => (intOf i).toNat)
  case atStart => exact ⟨m, rfl, by omega, s1, [], v', H1.out, by rw [HM.out]; simp, by simp; omega, HB1.out⟩
  case round =>
    obtain ⟨k, rfl, hk, s', acc, vv, hD, hE, hL, hBl⟩ := hrel
    clear H0 H1 HB1 HM HS1
    have HD := Lib.hid hD
    have HE := Lib.hid hE
    have HBL := Lib.hid hBl
    clear hD hE hBl
    obtain ⟨u0, sh, hc1, hlg, hsh⟩ := rd_cell HD.out.rd
    by_cases hk0 : k = 0
    · subst hk0
      have HP := Lib.hid (many46_done HD.out HE.out (by omega) HBL.out)
      clear hsh
      go_wp2
      exact bodyPost_ret (v := .tuple #[]) (by simp [results, Try.results40, go_sem]) rfl HP.out
    · cases s' with
      | none =>
        obtain rfl : sh = true := by simpa using hsh
        clear hsh
        have HP := Lib.hid (many46_done HD.out (HE.out.trans (loopR_none _ _ _)) (by omega) HBL.out)
        have hkp : decide (0 < k) = true := by simp; omega
        have hkq : 0 < k := by omega
        go_wp2
        exact bodyPost_ret (v := .tuple #[]) (by simp [results, Try.results40, go_sem]) rfl HP.out
      | some xs =>
        obtain rfl : sh = false := by simpa using hsh
        clear hsh
        obtain ⟨j, rfl⟩ : ∃ j, k = j + 1 := ⟨k - 1, by omega⟩
        have HC := Lib.hid (cl46 wr B q g ob (some xs) v0 v1 vN vv ws bs ns acc HD.out (by omega))
        have hkp : decide (0 < j + 1) = true := by simp
        go_wp2_with fail
        refine HC.out.mono ?_
        rintro e w2 ⟨rfl, v2, hD2, hB2⟩
        have HD2 := Lib.hid hD2
        have HB2 := Lib.hid (HBL.out.trans hB2)
        clear hD2 hB2 HC hc1 hkp hlg
        go_wp2
        go_roundw
        case rel => exact ⟨j, by go_num, by omega, _, _, v2, HD2.out, HE.out, by rw [List.length_append]; simp; omega, HB2.out⟩
        case measure => simp [intOf]
end Go.Proofs.Ytgmpcdonmlhohaa
