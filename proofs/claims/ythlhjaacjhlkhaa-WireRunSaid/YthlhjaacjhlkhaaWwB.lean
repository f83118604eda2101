/- The program's Run; the reference's line. -/
import Derived.Test.YthlhjaacjhlkhaaWwA
import Derived.Deep.RegionHeld3
import Derived.LoopTactic
import Derived.Test.YthlhjaacjhlkhaaStY4
import Derived.Test.YthlhjaacjhlkhaaSgF
import Derived.Test.YthlhjaacjhlkhaaPpE
/- Contract of wire.Run. -/
namespace Go.Proofs.Ythlhjaacjhlkhaa
open Go.RowKit
set_option maxHeartbeats 400000
set_option linter.unusedVariables false
set_option linter.unusedSimpArgs false
def cellsT (l : Lay) (f0 : Bool) (s0 : Int) (f1 : Bool) (s1 : Int) : Array Value := #[.pointer (some ⟨l.g 0, 0, none⟩), .pointer (some ⟨l.g 1, 0, none⟩), l.vw 0, l.vr 0, .bool f0, .int .i64 s0, l.vw 1, l.vr 1, .bool f1, .int .i64 s1, l.v]
theorem cellsT_0 (l : Lay) : l.cells = cellsT l false 0 false 0 := rfl
theorem run55w (args : Array Value) (w : World) : (callFunc 55 args).run Try.prog w = .ok (.enter 55 args) w := by
  have h := Try.func55
  simp [callFunc, go_sem, h, Try.f55]
theorem run54w (args : Array Value) (w : World) : (callFunc 54 args).run Try.prog w = .ok (.enter 54 args) w := by
  have h := Try.func54
  simp [callFunc, go_sem, h, Try.f54]
def toldZ : Value := .agg #[.slice none 0 0, .slice none 0 0, .bool false, .int .i64 0, .slice none 0 0, .slice none 0 0, .bool false, .int .i64 0]
def toldC : Array Value := #[.slice none 0 0, .slice none 0 0, .bool false, .int .i64 0, .slice none 0 0, .slice none 0 0, .bool false, .int .i64 0]
/-- What a run of deeds hands out: what both ends told; its rows lie in new blocks. -/
def RunP (w : World) (y : Sys) (e : Ending) (w' : World) : Prop :=
  ∃ vw vr : Nat → Value, e = .returned (.tuple #[.agg #[vw 0, vr 0, .bool y.a.fin, .int .i64 y.a.st, vw 1, vr 1, .bool y.b.fin, .int .i64 y.b.st], .int .i64 0]) ∧
    (∀ i, i < 2 → Row w' w.heap.size 5 1 (vw i) (y.at i).said.length ((y.at i).said.map (Value.int .u8))) ∧ (∀ i, i < 2 → Row w' w.heap.size 5 1 (vr i) (y.at i).rdL.length ((y.at i).rdL.map (Value.int .u8))) ∧ Below w.heap.size w w'
theorem run_large (a b : Int) (A : Option Addr) (n c : Nat) (w : World) (hn : 200 < n) :
    Calls Try.prog 80 #[.int .u32 a, .int .u32 b, .slice A n c] w fun e w' => e = .returned (.tuple #[toldZ, .int .i64 2]) ∧ Below w.heap.size w w' := by
  have t1 : decide ((200 : Int) < (n : Int)) = true := by simp; omega
  go_enter Try.func80, Try.ntmps80
  go_wp2
  exact bodyPost_ret (v := .tuple #[toldZ, .int .i64 2]) (by simp [results, Try.results80, go_sem, toldZ]) rfl ⟨rfl, (Below.refl _ _).alloc (Nat.le_refl _) _⟩
theorem run_start (w : World) {W3 : World} (hW3 : W3 = ((((w.alloc (.cells toldC 101)).alloc (.cells (ecells ex0 (.slice none 0 0) (.slice none 0 0)) 128)).alloc (.cells (ecells ex0 (.slice none 0 0) (.slice none 0 0)) 128)).alloc (.cells (lay0 (w.heap.size + 1 + 1 + 1) (w.heap.size + 1) (w.heap.size + 1 + 1)).cells 160))) :
    Below w.heap.size w W3 ∧ W3.heap.size = w.heap.size + 1 + 1 + 1 + 1 ∧ Blk W3 w.heap.size toldC 101 ∧ ESt W3 (w.heap.size + 1) (w.heap.size + 1) ex0 (.slice none 0 0) (.slice none 0 0) [] [] ∧ ESt W3 (w.heap.size + 1) (w.heap.size + 1 + 1) ex0 (.slice none 0 0) (.slice none 0 0) [] [] ∧ Blk W3 (w.heap.size + 1 + 1 + 1) (lay0 (w.heap.size + 1 + 1 + 1) (w.heap.size + 1) (w.heap.size + 1 + 1)).cells 160 := by
  obtain ⟨Wa, ha⟩ : ∃ Wa, Wa = w.alloc (.cells toldC 101) := ⟨_, rfl⟩
  obtain ⟨Wb, hb⟩ : ∃ Wb, Wb = Wa.alloc (.cells (ecells ex0 (.slice none 0 0) (.slice none 0 0)) 128) := ⟨_, rfl⟩
  obtain ⟨Wc, hc⟩ : ∃ Wc, Wc = Wb.alloc (.cells (ecells ex0 (.slice none 0 0) (.slice none 0 0)) 128) := ⟨_, rfl⟩
  rw [← ha, ← hb, ← hc] at hW3
  have sa : Wa.heap.size = w.heap.size + 1 := by rw [ha]; simp
  have sb : Wb.heap.size = w.heap.size + 1 + 1 := by rw [hb, World.size_alloc, sa]
  have sc : Wc.heap.size = w.heap.size + 1 + 1 + 1 := by rw [hc, World.size_alloc, sb]
  have sd : W3.heap.size = w.heap.size + 1 + 1 + 1 + 1 := by rw [hW3, World.size_alloc, sc]
  have b1 : Below w.heap.size w Wa := by rw [ha]; exact (Below.refl _ _).alloc (Nat.le_refl _) _
  have b2 : Below Wa.heap.size Wa Wb := by rw [hb]; exact (Below.refl _ _).alloc (Nat.le_refl _) _
  have b3 : Below Wb.heap.size Wb Wc := by rw [hc]; exact (Below.refl _ _).alloc (Nat.le_refl _) _
  have b4 : Below Wc.heap.size Wc W3 := by rw [hW3]; exact (Below.refl _ _).alloc (Nat.le_refl _) _
  have e0 : ESt Wb (w.heap.size + 1) (w.heap.size + 1) ex0 (.slice none 0 0) (.slice none 0 0) [] [] := by
    have := ob0 Wa (w.heap.size + 1) 128 (ecells ex0) (by omega)
    rw [← hb, sa] at this
    exact this
  have e1 : ESt Wc (w.heap.size + 1) (w.heap.size + 1 + 1) ex0 (.slice none 0 0) (.slice none 0 0) [] [] := by
    have := ob0 Wb (w.heap.size + 1) 128 (ecells ex0) (by omega)
    rw [← hc, sb] at this
    exact this
  have t0 : Blk Wa w.heap.size toldC 101 := by rw [ha]; exact Blk.new _ _ _
  refine ⟨((b1.trans (b2.mono (by omega))).trans (b3.mono (by omega))).trans (b4.mono (by omega)), sd, ((t0.fr (Fr.of_grow b2) id).fr (Fr.of_grow b3) id).fr (Fr.of_grow b4) id, Ob2.grow (Ob2.grow e0 b3) b4, Ob2.grow e1 b4, ?_⟩
  rw [hW3, ← sc]
  exact Blk.new _ _ _
theorem run_begin {w W3 w4 w5 : World} {a b : Int} (ha : 0 ≤ a ∧ a < 4294967296) (hb : 0 ≤ b ∧ b < 4294967296) (hs : W3.heap.size = w.heap.size + 1 + 1 + 1 + 1) (hl : Blk W3 (w.heap.size + 1 + 1 + 1) (lay0 (w.heap.size + 1 + 1 + 1) (w.heap.size + 1) (w.heap.size + 1 + 1)).cells 160)
    (h4 : ESt w4 (w.heap.size + 1) (w.heap.size + 1) (exB 2 a) (.slice none 0 0) (.slice none 0 0) [] []) (f4 : Fr (fun k => k = w.heap.size + 1) W3 w4)
    (h5 : ESt w5 (w.heap.size + 1) (w.heap.size + 1 + 1) (exB 1 b) (.slice none 0 0) (.slice none 0 0) [] []) (f5 : Fr (fun k => k = w.heap.size + 1 + 1) w4 w5) :
    LnS w5 (w.heap.size + 1) (lay0 (w.heap.size + 1 + 1 + 1) (w.heap.size + 1) (w.heap.size + 1 + 1)) (Sys.start a b) (fun e => if e = 0 then exB 2 a else exB 1 b) := by
  refine Ln.start ha hb (by omega) (by omega) (by omega) (by omega) ((hl.fr f4 (by omega)).fr f5 (by omega)) (Ob2.keep h4 f5 (fun k hk e => ?_)) h5
  have h6 := nilF hk
  have e : k = w.heap.size + 1 + 1 := e
  omega
set_option maxHeartbeats 4000000 in
set_option maxRecDepth 100000 in
theorem run_ok (a b : Int) (ha : 0 ≤ a ∧ a < 4294967296) (hb : 0 ≤ b ∧ b < 4294967296) (A : Option Addr) (n c : Nat) (ps : List De) (w : World) (h : RDe w w.heap.size A n ps) (hn : n ≤ 200) (hnc : n ≤ c) :
    Calls Try.prog 80 #[.int .u32 a, .int .u32 b, .slice A n c] w (RunP w (Sys.runK a b (ps.map De.dd) n)) := by
  have t1 : decide ((200 : Int) < (n : Int)) = false := by simp; omega
  have HN37 := Lib.hid new37
  have HD := Lib.hid h
  have HA := Lib.hid ha
  have HB := Lib.hid hb
  have HLEN : Hid ((ps.map De.dd).length = n) := Lib.hid (by rw [List.length_map]; exact h.1.2)
  have HBY : Hid (∀ d ∈ ps.map De.dd, Byt d.ds) := Lib.hid (fun d hd => by
    obtain ⟨r, hr, rfl⟩ := List.mem_map.1 hd
    exact (h.2 r hr).ds.2)
  clear h ha hb
  go_enter Try.func80, Try.ntmps80
  go_wp2_with fail
  refine (HN37.out _).mono ?_
  rintro e w1 ⟨rfl, rfl⟩
  go_wp2_with fail
  refine (HN37.out _).mono ?_
  rintro e w2 ⟨rfl, rfl⟩
  clear HN37
  go_wp2_with fail
  obtain ⟨W3, hW3⟩ : ∃ W3, W3 = ((((w.alloc (.cells toldC 101)).alloc (.cells (ecells ex0 (.slice none 0 0) (.slice none 0 0)) 128)).alloc (.cells (ecells ex0 (.slice none 0 0) (.slice none 0 0)) 128)).alloc (.cells (lay0 (w.heap.size + 1 + 1 + 1) (w.heap.size + 1) (w.heap.size + 1 + 1)).cells 160)) := ⟨_, rfl⟩
  obtain ⟨hb3, hs3, hT3, hE0, hE1, hL3⟩ := run_start w hW3
  have hW3' := hW3
  dsimp [toldC, Lay.cells, lay0] at hW3'
  rw [← hW3']
  have HB3 := Lib.hid hb3
  have HS3 := Lib.hid hs3
  have HT3 := Lib.hid hT3
  have HE1 := Lib.hid hE1
  have HL3 := Lib.hid hL3
  refine (call38_ok hE0 a HA.out (by omega)).mono ?_
  rintro e w4 ⟨rfl, h4, f4⟩
  have H4 := Lib.hid h4
  have F4 := Lib.hid f4
  have hl4 := hL3.fr f4 (by omega)
  have c1 := hl4.cell 1
  have c1l := hl4.lt
  dsimp [Lay.cells, lay0] at c1
  have HE14 := Lib.hid (Ob2.keep hE1 f4 (fun k hk e => by have h6 := nilF hk; have e : k = w.heap.size + 1 := e; omega))
  clear hW3 hW3' hb3 hs3 hT3 hE0 hE1 hL3 h4 f4 hl4
  go_wp2_with fail
  refine (listen40 HE14.out b HB.out (by have := F4.out.size; have := HS3.out; omega)).mono ?_
  rintro e w5 ⟨rfl, h5, f5⟩
  have F5 := Lib.hid f5
  have HL5 := Lib.hid (run_begin HA.out HB.out HS3.out HL3.out H4.out F4.out h5 f5)
  have HB5 : Hid (w.heap.size + 1 + 1 + 1 + 1 ≤ w5.heap.size) := Lib.hid (by have := f5.size; have := F4.out.size; have := HS3.out; omega)
  have HF5 : Hid (Fr (fun k => w.heap.size + 1 ≤ k) W3 w5) := Lib.hid ((F4.out.mono (fun k _ e => Nat.le_of_eq e.symm)).trans (f5.mono (fun k _ e => by have e : k = w.heap.size + 1 + 1 := e; omega)) (fun _ _ h => h))
  have HBW5 : Hid (Below w.heap.size w w5) := Lib.hid (HB3.out.trans (HF5.out.below (by have := HS3.out; omega) (fun k hk => by omega)))
  have HT5 : Hid (Blk w5 w.heap.size toldC 101) := Lib.hid (HT3.out.fr HF5.out (by omega))
  have HSD := Lib.hid (send_any HL5.out (Sys.start_ok HA.out HB.out) (by omega) (by have := HB5.out; omega))
  clear h5 f5 c1 c1l HE14 H4 F4 F5 HE1 HL3 HT3 HF5
  go_wp2_with fail
  refine HSD.out.mono ?_
  rintro e w6 ⟨rfl, hq6⟩
  have HQ6 : Hid (LnQ w5 (w.heap.size + 1) (lay0 (w.heap.size + 1 + 1 + 1) (w.heap.size + 1) (w.heap.size + 1 + 1)) (Sys.runK a b (ps.map De.dd) 0) w6) := Lib.hid hq6
  clear hq6 HSD HL5
  go_wp2_with fail
  go_loopw [40] (fun v wr => ∃ k : Nat, k ≤ n ∧ v = .int .i64 k ∧ Hid (LnQ w5 (w.heap.size + 1) (lay0 (w.heap.size + 1 + 1 + 1) (w.heap.size + 1) (w.heap.size + 1 + 1)) (Sys.runK a b (ps.map De.dd) k) wr)) (fun v _ => n - (intOf v).toNat)
  case atStart => exact ⟨0, by omega, rfl, HQ6⟩
  case round =>
    obtain ⟨k, hk, rfl, HQ⟩ := hrel
    clear HQ6
    by_cases hlt : k < n
    · have HQ2 := HQ.out
      obtain ⟨l1, x1, hlb, hlg, hm1, hf1⟩ := HQ2
      have hbw : Below w.heap.size w wr := HBW5.out.trans (hf1.below (by have := HB5.out; omega) (fun k hk => by omega))
      have hbz : w.heap.size + 1 + 1 + 1 + 1 ≤ wr.heap.size := Nat.le_trans HB5.out hf1.size
      obtain ⟨b4, o4, rfl, hb4, k0, k1, k2, k3, hfd, hpl⟩ := (HD.out.below' hbw (Nat.le_refl _)).at_ hlt
      have hb4 : b4 < wr.heap.size := by omega
      have hk5 : (k : Int) < n := by omega
      have hkl : k < (ps.map De.dd).length := by rw [HLEN.out]; exact hlt
      have hel : (ps.map De.dd)[k] = (ps.getD k .zero).dd := by
        rw [List.getElem_map]
        simp [List.getD, List.getElem?_eq_getElem (show k < ps.length by omega)]
      have HNX : Hid (Sys.runK a b (ps.map De.dd) (k + 1) = ((Sys.runK a b (ps.map De.dd) k).deed (ps.getD k .zero).dd).send) := Lib.hid (by rw [Sys.runK_succ hkl, hel])
      have HOK := Lib.hid (Sys.runK_ok HA.out HB.out HBY.out k (by omega))
      have HFN := Lib.hid (Sys.runK_fn HA.out HB.out HBY.out k (by omega))
      have HDB : Hid (Byt (ps.getD k .zero).ds) := Lib.hid hfd.ds.2
      have HFD := Lib.hid hfd
      have HM1 := Lib.hid hm1
      have HF1 := Lib.hid hf1
      have HBZ := Lib.hid hbz
      clear hel hfd hm1 hf1 hbw hpl hkl hbz
      generalize ps.getD k .zero = d at *
      generalize Sys.runK a b (ps.map De.dd) k = y at *
      obtain ⟨kd, ee, nn, dA, dm, dc, ds⟩ := d
      dsimp only [De.dd] at k0 k1 k2 k3 HNX HDB
      have HDD : Hid ((y.deed ⟨kd, ee, nn, ds⟩).Ok (2 * k + 1 + 1)) := Lib.hid (HOK.out.deed HDB.out)
      have HRB : Hid (RB wr (w.heap.size + 1) dA dm ds ∧ dm ≤ dc ∧ dc ≤ 9223372036854775807) := Lib.hid ⟨HFD.out.ds.more (by omega), HFD.out.mc⟩
      obtain ⟨Wd, hWd⟩ : ∃ Wd, Wd = wr.alloc (.cells #[.int .i64 kd, .int .i64 ee, .int .i64 nn, .slice dA dm dc] 162) := ⟨_, rfl⟩
      have hbd : Below wr.heap.size wr Wd := by rw [hWd]; exact (Below.refl _ _).alloc (Nat.le_refl _) _
      have hdk : Blk Wd wr.heap.size #[.int .i64 kd, .int .i64 ee, .int .i64 nn, .slice dA dm dc] 162 := by rw [hWd]; exact Blk.new _ _ _
      have HLD : Hid (LnS Wd (w.heap.size + 1) l1 y x1) := Lib.hid (Ln.grow HM1.out hbd)
      have HFD2 : Hid (Fr (fun k => w.heap.size + 1 ≤ k) w5 Wd) := Lib.hid (fr_trans HF1.out (fr_below hbd))
      have HRD : Hid (RB Wd (w.heap.size + 1) dA dm ds) := Lib.hid (HRB.out.1.below' hbd (by have := HBZ.out; omega))
      have HBD : Hid (w.heap.size + 1 ≤ Wd.heap.size) := Lib.hid (by have := hbd.size; have := HBZ.out; omega)
      have HQD : Hid (LnQ w5 (w.heap.size + 1) (lay0 (w.heap.size + 1 + 1 + 1) (w.heap.size + 1) (w.heap.size + 1 + 1)) y Wd) := Lib.hid (HQ.out.grow hbd)
      go_upto_block 2 with fail
      rw [← hWd]
      have d0 := hdk.cell 0
      have d1 := hdk.cell 1
      have d2 := hdk.cell 2
      have d3 := hdk.cell 3
      have dl := hdk.lt
      dsimp at d0 d1 d2 d3
      have g0 := HLD.out.blk.cell 0
      have g1 := HLD.out.blk.cell 1
      have g10 := HLD.out.blk.cell 10
      have gl := HLD.out.blk.lt
      dsimp only [Lay.cells] at g0 g1 g10
      simp only [List.getElem?_toArray, List.getElem?_cons_succ, List.getElem?_cons_zero] at g0 g1 g10
      obtain ⟨A7, c7, e7, -, -⟩ := HLD.out.way.shape
      rw [e7] at g10
      have hlb' : l1.lb = w.heap.size + 1 + 1 + 1 := hlb
      have hg0' : l1.g 0 = w.heap.size + 1 := by rw [hlg]; rfl
      have hg1' : l1.g 1 = w.heap.size + 1 + 1 := by rw [hlg]; rfl
      rw [hlb'] at g0 g1 g10 gl
      rw [hg0'] at g0
      rw [hg1'] at g1
      have HLB := Lib.hid hlb
      have HLG := Lib.hid hlg
      have HLB' := Lib.hid hlb'
      have HG0 := Lib.hid hg0'
      have HG1 := Lib.hid hg1'
      have HK := Lib.hid hn
      clear hWd hbd hdk e7 k0 k1 k2 k3 hb4 hlb hlg hlb' hg0' hg1'
      generalize hN : y.way.length = N at *
      have HN := Lib.hid hN
      clear hN
      rcases (by omega : (1 ≤ kd ∧ kd ≤ 3 ∧ ee = 0) ∨ (1 ≤ kd ∧ kd ≤ 3 ∧ ee = 1) ∨ (4 ≤ kd ∧ kd ≤ 6 ∧ 0 ≤ nn ∧ nn < (N : Int)) ∨ kd = 7 ∨ kd < 1 ∨ (1 ≤ kd ∧ kd ≤ 3 ∧ ee ≠ 0 ∧ ee ≠ 1) ∨ (4 ≤ kd ∧ kd ≤ 6 ∧ nn < 0) ∨ (4 ≤ kd ∧ kd ≤ 6 ∧ 0 ≤ nn ∧ (N : Int) ≤ nn) ∨ 7 < kd) with hx | hx | hx | hx | hx | hx | hx | hx | hx
      · have b1 : decide ((1 : Int) ≤ kd) = true := by simp; omega
        have b2 : decide (kd ≤ (3 : Int)) = true := by simp; omega
        have b3 : (ee == 0) = true := by simp; omega
        have HC := Lib.hid (own_any HLD.out HOK.out (by have := HK.out; omega) (fun e => HFN.out.at_ e) kd ee nn (by omega) (by omega) dA dm dc ds HRD.out HRB.out.2.1 HRB.out.2.2 HBD.out)
        rw [HLB'.out] at HC
        clear hx
        go_wp2_with fail
        refine HC.out.mono ?_
        rintro e8 w8 ⟨rfl, hq8⟩
        have HQ4 : Hid (LnQ w5 (w.heap.size + 1) (lay0 (w.heap.size + 1 + 1 + 1) (w.heap.size + 1) (w.heap.size + 1 + 1)) (y.deed ⟨kd, ee, nn, ds⟩) w8) := Lib.hid (hq8.trans HLB.out HLG.out HFD2.out)
        clear hq8 HC
        have HQ4X := HQ4.out
        obtain ⟨l4, x4, hlb4, hlg4, hm4, hf4⟩ := HQ4X
        have HS4 := Lib.hid (send_any (m := 2 * k + 1 + 1) hm4 HDD.out (by have := HK.out; omega) (Nat.le_trans (by have := HB5.out; omega) hf4.size))
        rw [show l4.lb = w.heap.size + 1 + 1 + 1 from hlb4] at HS4
        have HTR := Lib.hid (fun w9 (h9 : LnQ w8 (w.heap.size + 1) l4 ((y.deed ⟨kd, ee, nn, ds⟩).send) w9) => h9.trans hlb4 hlg4 hf4)
        clear hm4 hf4 hlb4 hlg4 d0 d1 d2 d3 dl g0 g1 g10 gl
        go_wp2_with fail
        refine HS4.out.mono ?_
        rintro e9 w9 ⟨rfl, hq9⟩
        have HQ9 : Hid (LnQ w5 (w.heap.size + 1) (lay0 (w.heap.size + 1 + 1 + 1) (w.heap.size + 1) (w.heap.size + 1 + 1)) (Sys.runK a b (ps.map De.dd) (k + 1)) w9) := Lib.hid (by rw [HNX.out]; exact HTR.out w9 hq9)
        clear hq9
        go_wp2
        go_roundw
        case rel => exact ⟨k + 1, by omega, by go_num, HQ9⟩
        case measure => simp [intOf]; omega
      · have b1 : decide ((1 : Int) ≤ kd) = true := by simp; omega
        have b2 : decide (kd ≤ (3 : Int)) = true := by simp; omega
        have b3 : (ee == 0) = false := by simp; omega
        have b4 : (ee == 1) = true := by simp; omega
        have HC := Lib.hid (own_any HLD.out HOK.out (by have := HK.out; omega) (fun e => HFN.out.at_ e) kd ee nn (by omega) (by omega) dA dm dc ds HRD.out HRB.out.2.1 HRB.out.2.2 HBD.out)
        rw [HLB'.out] at HC
        clear hx
        go_wp2_with fail
        refine HC.out.mono ?_
        rintro e8 w8 ⟨rfl, hq8⟩
        have HQ4 : Hid (LnQ w5 (w.heap.size + 1) (lay0 (w.heap.size + 1 + 1 + 1) (w.heap.size + 1) (w.heap.size + 1 + 1)) (y.deed ⟨kd, ee, nn, ds⟩) w8) := Lib.hid (hq8.trans HLB.out HLG.out HFD2.out)
        clear hq8 HC
        have HQ4X := HQ4.out
        obtain ⟨l4, x4, hlb4, hlg4, hm4, hf4⟩ := HQ4X
        have HS4 := Lib.hid (send_any (m := 2 * k + 1 + 1) hm4 HDD.out (by have := HK.out; omega) (Nat.le_trans (by have := HB5.out; omega) hf4.size))
        rw [show l4.lb = w.heap.size + 1 + 1 + 1 from hlb4] at HS4
        have HTR := Lib.hid (fun w9 (h9 : LnQ w8 (w.heap.size + 1) l4 ((y.deed ⟨kd, ee, nn, ds⟩).send) w9) => h9.trans hlb4 hlg4 hf4)
        clear hm4 hf4 hlb4 hlg4 d0 d1 d2 d3 dl g0 g1 g10 gl
        go_wp2_with fail
        refine HS4.out.mono ?_
        rintro e9 w9 ⟨rfl, hq9⟩
        have HQ9 : Hid (LnQ w5 (w.heap.size + 1) (lay0 (w.heap.size + 1 + 1 + 1) (w.heap.size + 1) (w.heap.size + 1 + 1)) (Sys.runK a b (ps.map De.dd) (k + 1)) w9) := Lib.hid (by rw [HNX.out]; exact HTR.out w9 hq9)
        clear hq9
        go_wp2
        go_roundw
        case rel => exact ⟨k + 1, by omega, by go_num, HQ9⟩
        case measure => simp [intOf]; omega
      · have b1 : decide ((1 : Int) ≤ kd) = true := by simp; omega
        have b2 : decide (kd ≤ (3 : Int)) = false := by simp; omega
        have b5 : decide ((4 : Int) ≤ kd) = true := by simp; omega
        have b6 : decide (kd ≤ (6 : Int)) = true := by simp; omega
        have b7 : decide ((0 : Int) ≤ nn) = true := by simp; omega
        have b8 : decide (nn < (N : Int)) = true := by simp; omega
        go_wp2_with fail
        refine wp_region_near Wd.heap.size (by kernel_rfl) (by kernel_rfl) ?_
        repeat (go_big_quiet_step (fail))
        refine wpQuiet_nil ?_
        intro wz hbz
        have HBZ2 := Lib.hid hbz
        obtain ⟨i, hi⟩ : ∃ i : Nat, nn = i := ⟨nn.toNat, by omega⟩
        have HLZ : Hid (LnS wz (w.heap.size + 1) l1 y x1) := Lib.hid (Ln.grow HLD.out hbz)
        have HFZ : Hid (Fr (fun k => w.heap.size + 1 ≤ k) w5 wz) := Lib.hid (fr_trans HFD2.out (fr_below hbz))
        have HC := Lib.hid (deed_some HLZ.out HOK.out (by have := HK.out; omega) kd ee i (by omega) (by rw [HN.out]; omega) dA dm dc ds (Nat.le_trans HBD.out hbz.size))
        rw [HLB'.out, ← hi] at HC
        have z0 := (hbz.cell (p := ⟨wr.heap.size, 0, none⟩) dl).trans d0
        have z1 := (hbz.cell (p := ⟨wr.heap.size, 1, none⟩) dl).trans d1
        have z2 := (hbz.cell (p := ⟨wr.heap.size, 2, none⟩) dl).trans d2
        have z3 := (hbz.cell (p := ⟨wr.heap.size, 3, none⟩) dl).trans d3
        have zl := Nat.lt_of_lt_of_le dl hbz.size
        clear hbz hx hi
        go_wp2_with fail
        refine HC.out.mono ?_
        rintro e8 w8 ⟨rfl, hq8⟩
        have HQ4 : Hid (LnQ w5 (w.heap.size + 1) (lay0 (w.heap.size + 1 + 1 + 1) (w.heap.size + 1) (w.heap.size + 1 + 1)) (y.deed ⟨kd, ee, nn, ds⟩) w8) := Lib.hid (hq8.trans HLB.out HLG.out HFZ.out)
        clear hq8 HC z0 z1 z2 z3 zl
        have HQ4X := HQ4.out
        obtain ⟨l4, x4, hlb4, hlg4, hm4, hf4⟩ := HQ4X
        have HS4 := Lib.hid (send_any (m := 2 * k + 1 + 1) hm4 HDD.out (by have := HK.out; omega) (Nat.le_trans (by have := HB5.out; omega) hf4.size))
        rw [show l4.lb = w.heap.size + 1 + 1 + 1 from hlb4] at HS4
        have HTR := Lib.hid (fun w9 (h9 : LnQ w8 (w.heap.size + 1) l4 ((y.deed ⟨kd, ee, nn, ds⟩).send) w9) => h9.trans hlb4 hlg4 hf4)
        clear hm4 hf4 hlb4 hlg4 d0 d1 d2 d3 dl g0 g1 g10 gl
        go_wp2_with fail
        refine HS4.out.mono ?_
        rintro e9 w9 ⟨rfl, hq9⟩
        have HQ9 : Hid (LnQ w5 (w.heap.size + 1) (lay0 (w.heap.size + 1 + 1 + 1) (w.heap.size + 1) (w.heap.size + 1 + 1)) (Sys.runK a b (ps.map De.dd) (k + 1)) w9) := Lib.hid (by rw [HNX.out]; exact HTR.out w9 hq9)
        clear hq9
        go_wp2
        go_roundw
        case rel => exact ⟨k + 1, by omega, by go_num, HQ9⟩
        case measure => simp [intOf]; omega
      · have HTK : Hid (y.deed ⟨kd, ee, nn, ds⟩ = (y.onE 0 Sm.tickedS).onE 1 Sm.tickedS) := Lib.hid (deed_tick hx)
        have b1 : decide ((1 : Int) ≤ kd) = true := by simp; omega
        have b2 : decide (kd ≤ (3 : Int)) = false := by simp; omega
        have b5 : decide ((4 : Int) ≤ kd) = true := by simp; omega
        have b6 : decide (kd ≤ (6 : Int)) = false := by simp; omega
        have b9 : (kd == 7) = true := by simp; omega
        go_wp2_with fail
        refine wp_region_near Wd.heap.size (by kernel_rfl) (by kernel_rfl) ?_
        repeat (go_big_quiet_step (fail))
        refine wpQuiet_nil ?_
        intro wz hbz
        have HBZ2 := Lib.hid hbz
        have HLZ : Hid (LnS wz (w.heap.size + 1) l1 y x1) := Lib.hid (Ln.grow HLD.out hbz)
        have HFZ : Hid (Fr (fun k => w.heap.size + 1 ≤ k) w5 wz) := Lib.hid (fr_trans HFD2.out (fr_below hbz))
        have HC := Lib.hid (tick_end HLZ.out HOK.out (by have := HK.out; omega) (e := 0) (by omega))
        rw [HG0.out] at HC
        have z0 := (hbz.cell (p := ⟨wr.heap.size, 0, none⟩) dl).trans d0
        have zg0 := (hbz.cell (p := ⟨w.heap.size + 1 + 1 + 1, 0, none⟩) gl).trans g0
        have zl := Nat.lt_of_lt_of_le gl hbz.size
        clear hbz hx
        go_wp2_with fail
        refine HC.out.mono ?_
        rintro e7 w7 ⟨rfl, l7, x7, hlb7, hlg7, hm7, hf7⟩
        have HM7 := Lib.hid hm7
        have HF7 := Lib.hid (fr_trans HFZ.out hf7)
        have HLB7 : Hid (l7.lb = w.heap.size + 1 + 1 + 1) := Lib.hid (hlb7.trans HLB'.out)
        have HLG7 := Lib.hid (hlg7.trans HLG.out)
        have HB7 : Hid (w.heap.size + 1 ≤ w7.heap.size) := Lib.hid (Nat.le_trans (by have := HB5.out; omega) HF7.out.size)
        have HOK7 : Hid ((y.onE 0 Sm.tickedS).Ok (2 * k + 1 + 1)) := Lib.hid (HOK.out.onE 0 (fun s hs => hs.ticked))
        have HC7 := Lib.hid (tick_end hm7 HOK7.out (by have := HK.out; omega) (e := 1) (by omega))
        rw [show l7.g 1 = w.heap.size + 1 + 1 by rw [HLG7.out]; rfl] at HC7
        have zg1 := hm7.blk.cell 1
        have zl1 := hm7.blk.lt
        dsimp only [Lay.cells] at zg1
        simp only [List.getElem?_toArray, List.getElem?_cons_succ, List.getElem?_cons_zero] at zg1
        rw [HLB7.out, show l7.g 1 = w.heap.size + 1 + 1 by rw [HLG7.out]; rfl] at zg1
        rw [HLB7.out] at zl1
        clear hm7 hf7 hlb7 hlg7 z0 zg0 zl HC
        go_wp2_with fail
        refine HC7.out.mono ?_
        rintro e8 w8 ⟨rfl, hq8⟩
        have HQ4 : Hid (LnQ w5 (w.heap.size + 1) (lay0 (w.heap.size + 1 + 1 + 1) (w.heap.size + 1) (w.heap.size + 1 + 1)) (y.deed ⟨kd, ee, nn, ds⟩) w8) := Lib.hid (by rw [HTK.out]; exact hq8.trans HLB7.out HLG7.out HF7.out)
        clear hq8 HC7 zg1 zl1
        have HQ4X := HQ4.out
        obtain ⟨l4, x4, hlb4, hlg4, hm4, hf4⟩ := HQ4X
        have HS4 := Lib.hid (send_any (m := 2 * k + 1 + 1) hm4 HDD.out (by have := HK.out; omega) (Nat.le_trans (by have := HB5.out; omega) hf4.size))
        rw [show l4.lb = w.heap.size + 1 + 1 + 1 from hlb4] at HS4
        have HTR := Lib.hid (fun w9 (h9 : LnQ w8 (w.heap.size + 1) l4 ((y.deed ⟨kd, ee, nn, ds⟩).send) w9) => h9.trans hlb4 hlg4 hf4)
        clear hm4 hf4 hlb4 hlg4 d0 d1 d2 d3 dl g0 g1 g10 gl
        go_wp2_with fail
        refine HS4.out.mono ?_
        rintro e9 w9 ⟨rfl, hq9⟩
        have HQ9 : Hid (LnQ w5 (w.heap.size + 1) (lay0 (w.heap.size + 1 + 1 + 1) (w.heap.size + 1) (w.heap.size + 1 + 1)) (Sys.runK a b (ps.map De.dd) (k + 1)) w9) := Lib.hid (by rw [HNX.out]; exact HTR.out w9 hq9)
        clear hq9
        go_wp2
        go_roundw
        case rel => exact ⟨k + 1, by omega, by go_num, HQ9⟩
        case measure => simp [intOf]; omega
      · have b1 : decide ((1 : Int) ≤ kd) = false := by simp; omega
        have b5 : decide ((4 : Int) ≤ kd) = false := by simp; omega
        have b9 : (kd == 7) = false := by simp; omega
        go_wp2_with fail
        refine wp_region_near Wd.heap.size (by kernel_rfl) (by kernel_rfl) ?_
        repeat (go_big_quiet_step (fail))
        refine wpQuiet_nil ?_
        intro wz hbz
        have HBZ2 := Lib.hid hbz
        have HQ4 : Hid (LnQ w5 (w.heap.size + 1) (lay0 (w.heap.size + 1 + 1 + 1) (w.heap.size + 1) (w.heap.size + 1 + 1)) (y.deed ⟨kd, ee, nn, ds⟩) wz) := Lib.hid (by
          rw [deed_else (by dsimp only; omega) (by dsimp only; rw [HN.out]; omega) (by dsimp only; omega)]
          exact HQD.out.grow HBZ2.out)
        have z0 := (hbz.cell (p := ⟨wr.heap.size, 0, none⟩) dl).trans d0
        clear hbz hx
        have HQ4X := HQ4.out
        obtain ⟨l4, x4, hlb4, hlg4, hm4, hf4⟩ := HQ4X
        have HS4 := Lib.hid (send_any (m := 2 * k + 1 + 1) hm4 HDD.out (by have := HK.out; omega) (Nat.le_trans (by have := HB5.out; omega) hf4.size))
        rw [show l4.lb = w.heap.size + 1 + 1 + 1 from hlb4] at HS4
        have HTR := Lib.hid (fun w9 (h9 : LnQ wz (w.heap.size + 1) l4 ((y.deed ⟨kd, ee, nn, ds⟩).send) w9) => h9.trans hlb4 hlg4 hf4)
        clear hm4 hf4 hlb4 hlg4 d0 d1 d2 d3 dl g0 g1 g10 gl
        go_wp2_with fail
        refine HS4.out.mono ?_
        rintro e9 w9 ⟨rfl, hq9⟩
        have HQ9 : Hid (LnQ w5 (w.heap.size + 1) (lay0 (w.heap.size + 1 + 1 + 1) (w.heap.size + 1) (w.heap.size + 1 + 1)) (Sys.runK a b (ps.map De.dd) (k + 1)) w9) := Lib.hid (by rw [HNX.out]; exact HTR.out w9 hq9)
        clear hq9
        go_wp2
        go_roundw
        case rel => exact ⟨k + 1, by omega, by go_num, HQ9⟩
        case measure => simp [intOf]; omega
      · have b1 : decide ((1 : Int) ≤ kd) = true := by simp; omega
        have b2 : decide (kd ≤ (3 : Int)) = true := by simp; omega
        have b3 : (ee == 0) = false := by simp; omega
        have b4 : (ee == 1) = false := by simp; omega
        have b5 : decide ((4 : Int) ≤ kd) = false := by simp; omega
        have b9 : (kd == 7) = false := by simp; omega
        go_wp2_with fail
        refine wp_region_near Wd.heap.size (by kernel_rfl) (by kernel_rfl) ?_
        repeat (go_big_quiet_step (fail))
        refine wpQuiet_nil ?_
        intro wz hbz
        have HBZ2 := Lib.hid hbz
        have HQ4 : Hid (LnQ w5 (w.heap.size + 1) (lay0 (w.heap.size + 1 + 1 + 1) (w.heap.size + 1) (w.heap.size + 1 + 1)) (y.deed ⟨kd, ee, nn, ds⟩) wz) := Lib.hid (by
          rw [deed_else (by dsimp only; omega) (by dsimp only; rw [HN.out]; omega) (by dsimp only; omega)]
          exact HQD.out.grow HBZ2.out)
        have z0 := (hbz.cell (p := ⟨wr.heap.size, 0, none⟩) dl).trans d0
        clear hbz hx
        have HQ4X := HQ4.out
        obtain ⟨l4, x4, hlb4, hlg4, hm4, hf4⟩ := HQ4X
        have HS4 := Lib.hid (send_any (m := 2 * k + 1 + 1) hm4 HDD.out (by have := HK.out; omega) (Nat.le_trans (by have := HB5.out; omega) hf4.size))
        rw [show l4.lb = w.heap.size + 1 + 1 + 1 from hlb4] at HS4
        have HTR := Lib.hid (fun w9 (h9 : LnQ wz (w.heap.size + 1) l4 ((y.deed ⟨kd, ee, nn, ds⟩).send) w9) => h9.trans hlb4 hlg4 hf4)
        clear hm4 hf4 hlb4 hlg4 d0 d1 d2 d3 dl g0 g1 g10 gl
        go_wp2_with fail
        refine HS4.out.mono ?_
        rintro e9 w9 ⟨rfl, hq9⟩
        have HQ9 : Hid (LnQ w5 (w.heap.size + 1) (lay0 (w.heap.size + 1 + 1 + 1) (w.heap.size + 1) (w.heap.size + 1 + 1)) (Sys.runK a b (ps.map De.dd) (k + 1)) w9) := Lib.hid (by rw [HNX.out]; exact HTR.out w9 hq9)
        clear hq9
        go_wp2
        go_roundw
        case rel => exact ⟨k + 1, by omega, by go_num, HQ9⟩
        case measure => simp [intOf]; omega
      · have b1 : decide ((1 : Int) ≤ kd) = true := by simp; omega
        have b2 : decide (kd ≤ (3 : Int)) = false := by simp; omega
        have b5 : decide ((4 : Int) ≤ kd) = true := by simp; omega
        have b6 : decide (kd ≤ (6 : Int)) = true := by simp; omega
        have b7 : decide ((0 : Int) ≤ nn) = false := by simp; omega
        have b9 : (kd == 7) = false := by simp; omega
        go_wp2_with fail
        refine wp_region_near Wd.heap.size (by kernel_rfl) (by kernel_rfl) ?_
        repeat (go_big_quiet_step (fail))
        refine wpQuiet_nil ?_
        intro wz hbz
        have HBZ2 := Lib.hid hbz
        have HQ4 : Hid (LnQ w5 (w.heap.size + 1) (lay0 (w.heap.size + 1 + 1 + 1) (w.heap.size + 1) (w.heap.size + 1 + 1)) (y.deed ⟨kd, ee, nn, ds⟩) wz) := Lib.hid (by
          rw [deed_else (by dsimp only; omega) (by dsimp only; rw [HN.out]; omega) (by dsimp only; omega)]
          exact HQD.out.grow HBZ2.out)
        have z0 := (hbz.cell (p := ⟨wr.heap.size, 0, none⟩) dl).trans d0
        clear hbz hx
        have HQ4X := HQ4.out
        obtain ⟨l4, x4, hlb4, hlg4, hm4, hf4⟩ := HQ4X
        have HS4 := Lib.hid (send_any (m := 2 * k + 1 + 1) hm4 HDD.out (by have := HK.out; omega) (Nat.le_trans (by have := HB5.out; omega) hf4.size))
        rw [show l4.lb = w.heap.size + 1 + 1 + 1 from hlb4] at HS4
        have HTR := Lib.hid (fun w9 (h9 : LnQ wz (w.heap.size + 1) l4 ((y.deed ⟨kd, ee, nn, ds⟩).send) w9) => h9.trans hlb4 hlg4 hf4)
        clear hm4 hf4 hlb4 hlg4 d0 d1 d2 d3 dl g0 g1 g10 gl
        go_wp2_with fail
        refine HS4.out.mono ?_
        rintro e9 w9 ⟨rfl, hq9⟩
        have HQ9 : Hid (LnQ w5 (w.heap.size + 1) (lay0 (w.heap.size + 1 + 1 + 1) (w.heap.size + 1) (w.heap.size + 1 + 1)) (Sys.runK a b (ps.map De.dd) (k + 1)) w9) := Lib.hid (by rw [HNX.out]; exact HTR.out w9 hq9)
        clear hq9
        go_wp2
        go_roundw
        case rel => exact ⟨k + 1, by omega, by go_num, HQ9⟩
        case measure => simp [intOf]; omega
      · have b1 : decide ((1 : Int) ≤ kd) = true := by simp; omega
        have b2 : decide (kd ≤ (3 : Int)) = false := by simp; omega
        have b5 : decide ((4 : Int) ≤ kd) = true := by simp; omega
        have b6 : decide (kd ≤ (6 : Int)) = true := by simp; omega
        have b7 : decide ((0 : Int) ≤ nn) = true := by simp; omega
        have b8 : decide (nn < (N : Int)) = false := by simp; omega
        have b9 : (kd == 7) = false := by simp; omega
        go_wp2_with fail
        refine wp_region_near Wd.heap.size (by kernel_rfl) (by kernel_rfl) ?_
        repeat (go_big_quiet_step (fail))
        refine wpQuiet_nil ?_
        intro wz hbz
        have HBZ2 := Lib.hid hbz
        have HQ4 : Hid (LnQ w5 (w.heap.size + 1) (lay0 (w.heap.size + 1 + 1 + 1) (w.heap.size + 1) (w.heap.size + 1 + 1)) (y.deed ⟨kd, ee, nn, ds⟩) wz) := Lib.hid (by
          rw [deed_else (by dsimp only; omega) (by dsimp only; rw [HN.out]; omega) (by dsimp only; omega)]
          exact HQD.out.grow HBZ2.out)
        have z0 := (hbz.cell (p := ⟨wr.heap.size, 0, none⟩) dl).trans d0
        clear hbz hx
        have HQ4X := HQ4.out
        obtain ⟨l4, x4, hlb4, hlg4, hm4, hf4⟩ := HQ4X
        have HS4 := Lib.hid (send_any (m := 2 * k + 1 + 1) hm4 HDD.out (by have := HK.out; omega) (Nat.le_trans (by have := HB5.out; omega) hf4.size))
        rw [show l4.lb = w.heap.size + 1 + 1 + 1 from hlb4] at HS4
        have HTR := Lib.hid (fun w9 (h9 : LnQ wz (w.heap.size + 1) l4 ((y.deed ⟨kd, ee, nn, ds⟩).send) w9) => h9.trans hlb4 hlg4 hf4)
        clear hm4 hf4 hlb4 hlg4 d0 d1 d2 d3 dl g0 g1 g10 gl
        go_wp2_with fail
        refine HS4.out.mono ?_
        rintro e9 w9 ⟨rfl, hq9⟩
        have HQ9 : Hid (LnQ w5 (w.heap.size + 1) (lay0 (w.heap.size + 1 + 1 + 1) (w.heap.size + 1) (w.heap.size + 1 + 1)) (Sys.runK a b (ps.map De.dd) (k + 1)) w9) := Lib.hid (by rw [HNX.out]; exact HTR.out w9 hq9)
        clear hq9
        go_wp2
        go_roundw
        case rel => exact ⟨k + 1, by omega, by go_num, HQ9⟩
        case measure => simp [intOf]; omega
      · have b1 : decide ((1 : Int) ≤ kd) = true := by simp; omega
        have b2 : decide (kd ≤ (3 : Int)) = false := by simp; omega
        have b5 : decide ((4 : Int) ≤ kd) = true := by simp; omega
        have b6 : decide (kd ≤ (6 : Int)) = false := by simp; omega
        have b9 : (kd == 7) = false := by simp; omega
        go_wp2_with fail
        refine wp_region_near Wd.heap.size (by kernel_rfl) (by kernel_rfl) ?_
        repeat (go_big_quiet_step (fail))
        refine wpQuiet_nil ?_
        intro wz hbz
        have HBZ2 := Lib.hid hbz
        have HQ4 : Hid (LnQ w5 (w.heap.size + 1) (lay0 (w.heap.size + 1 + 1 + 1) (w.heap.size + 1) (w.heap.size + 1 + 1)) (y.deed ⟨kd, ee, nn, ds⟩) wz) := Lib.hid (by
          rw [deed_else (by dsimp only; omega) (by dsimp only; rw [HN.out]; omega) (by dsimp only; omega)]
          exact HQD.out.grow HBZ2.out)
        have z0 := (hbz.cell (p := ⟨wr.heap.size, 0, none⟩) dl).trans d0
        clear hbz hx
        have HQ4X := HQ4.out
        obtain ⟨l4, x4, hlb4, hlg4, hm4, hf4⟩ := HQ4X
        have HS4 := Lib.hid (send_any (m := 2 * k + 1 + 1) hm4 HDD.out (by have := HK.out; omega) (Nat.le_trans (by have := HB5.out; omega) hf4.size))
        rw [show l4.lb = w.heap.size + 1 + 1 + 1 from hlb4] at HS4
        have HTR := Lib.hid (fun w9 (h9 : LnQ wz (w.heap.size + 1) l4 ((y.deed ⟨kd, ee, nn, ds⟩).send) w9) => h9.trans hlb4 hlg4 hf4)
        clear hm4 hf4 hlb4 hlg4 d0 d1 d2 d3 dl g0 g1 g10 gl
        go_wp2_with fail
        refine HS4.out.mono ?_
        rintro e9 w9 ⟨rfl, hq9⟩
        have HQ9 : Hid (LnQ w5 (w.heap.size + 1) (lay0 (w.heap.size + 1 + 1 + 1) (w.heap.size + 1) (w.heap.size + 1 + 1)) (Sys.runK a b (ps.map De.dd) (k + 1)) w9) := Lib.hid (by rw [HNX.out]; exact HTR.out w9 hq9)
        clear hq9
        go_wp2
        go_roundw
        case rel => exact ⟨k + 1, by omega, by go_num, HQ9⟩
        case measure => simp [intOf]; omega
    · obtain rfl : k = n := by omega
      have HQ2 := HQ.out
      obtain ⟨l1, x1, hlb, hlg, hm1, hf1⟩ := HQ2
      obtain ⟨W6, hW6⟩ : ∃ W6, W6 = wr := ⟨_, rfl⟩
      subst hW6
      generalize Sys.runK a b (ps.map De.dd) k = y at *
      have hlb' : l1.lb = w.heap.size + 1 + 1 + 1 := hlb
      have hg0' : l1.g 0 = w.heap.size + 1 := by rw [hlg]; rfl
      have hg1' : l1.g 1 = w.heap.size + 1 + 1 := by rw [hlg]; rfl
      have HOBL : Hid (∀ e, e < 2 → ∀ k, Ob2F (l1.g e) (l1.vo e) (l1.vi e) k → ¬ k = w.heap.size + 1 + 1 + 1) := Lib.hid (fun e he k hk e1 => hm1.dis.other (i := 1 + e) (j := 0) (q := fun k => k = l1.lb) (Ln.partE l1 he) rfl (by omega) k (by rw [hlb']; exact e1) hk)
      have HEN := Lib.hid (fun e (he : e < 2) W (hf : Fr (fun k => k = w.heap.size + 1 + 1 + 1) W6 W) => (show Calls Try.prog 55 #[.pointer (some ⟨l1.g e, 0, none⟩)] W (fun e' w' => ∃ v, e' = .returned v ∧ ∃ bb, v = .tuple #[.bool (y.at e).fin, .bool bb] ∧ Below W.heap.size W w') from
        (ended55 (Ob2.keep (hm1.est e he) hf (fun k hk => HOBL.out e he k hk))).mono (fun e' w' ⟨h1, h2⟩ => ⟨_, h1, _, by rw [(hm1.tie e he).fin], h2⟩)))
      have HTL := Lib.hid (fun e (he : e < 2) W (hf : Fr (fun k => k = w.heap.size + 1 + 1 + 1) W6 W) => (show Calls Try.prog 54 #[.pointer (some ⟨l1.g e, 0, none⟩)] W (fun e' w' => ∃ v, e' = .returned v ∧ ∃ q1 q2, v = .tuple #[.int .i64 (y.at e).st, .int .i64 q1, .int .i64 q2] ∧ Below W.heap.size W w') from
        (tell54 (Ob2.keep (hm1.est e he) hf (fun k hk => HOBL.out e he k hk))).mono (fun e' w' ⟨h1, h2⟩ => ⟨_, h1, _, _, by rw [(hm1.tie e he).st], h2⟩)))
      have hbk := hm1.blk
      rw [hlb', cellsT_0] at hbk
      have HI0 : Hid (Blk W6 (w.heap.size + 1 + 1 + 1) (cellsT l1 false 0 false 0) 160 ∧ Fr (fun k => k = w.heap.size + 1 + 1 + 1) W6 W6) := Lib.hid ⟨hbk, Fr.refl _ _⟩
      have HT6 : Hid (Blk W6 w.heap.size toldC 101) := Lib.hid (HT5.out.fr hf1 (by omega))
      have HBW6 : Hid (Below w.heap.size w W6) := Lib.hid (HBW5.out.trans (hf1.below (by have := HB5.out; omega) (fun k hk => by omega)))
      have HFIN := Lib.hid (fun W9 W10 (h9 : Fr (fun k => k = w.heap.size + 1 + 1 + 1) W6 W9) (h10 : Fr (fun k => k = w.heap.size) W9 W10) => (show RunP w y (.returned (.tuple #[.agg #[l1.vw 0, l1.vr 0, .bool y.a.fin, .int .i64 y.a.st, l1.vw 1, l1.vr 1, .bool y.b.fin, .int .i64 y.b.st], .int .i64 0])) W10 from by
        have h7 : ∀ {e : Nat} {v : Value} {nn : Nat} {xs : List Value}, e ≠ 0 → l1.parts[e]? = some (ownV v) → Row W6 (w.heap.size + 1) 5 1 v nn xs → Row W10 w.heap.size 5 1 v nn xs := fun he hp hr =>
          (((hr.fr h9 (fun k hk e1 => hm1.dis.other (j := 0) (q := fun k => k = l1.lb) hp rfl (Ne.symm he) k (by rw [hlb']; exact e1) hk)).fr h10 (fun k hk e1 => by have := (hr.lt k hk).1; have e1 : k = w.heap.size := e1; omega)).base_le (by omega))
        refine ⟨l1.vw, l1.vr, rfl, fun i hi => h7 (e := 3 + i) (by omega) (Ln.partW l1 hi) (hm1.wr i hi), fun i hi => h7 (e := 5 + i) (by omega) (Ln.partR l1 hi) (hm1.rd i hi), ?_⟩
        exact (HBW6.out.trans (h9.below (by have := HBW6.out.size; omega) (fun k hk => by have hk : k = w.heap.size + 1 + 1 + 1 := hk; omega))).trans (h10.below (by have := HBW6.out.size; have := h9.size; omega) (fun k hk => Nat.le_of_eq hk.symm))))
      have c0 := hbk.cell 0
      have c1 := hbk.cell 1
      have hl := hbk.lt
      dsimp only [cellsT] at c0 c1
      simp only [List.getElem?_toArray, List.getElem?_cons_succ, List.getElem?_cons_zero] at c0 c1
      have hix0 := idx157a (.pointer (some ⟨l1.g 0, 0, none⟩)) (.pointer (some ⟨l1.g 1, 0, none⟩))
      have hix1 := idx157b (.pointer (some ⟨l1.g 0, 0, none⟩)) (.pointer (some ⟨l1.g 1, 0, none⟩))
      obtain ⟨Aw0, cw0, ew0, -, -⟩ := (hm1.wr 0 (by omega)).shape
      obtain ⟨Aw1, cw1, ew1, -, -⟩ := (hm1.wr 1 (by omega)).shape
      obtain ⟨Ar0, cr0, er0, -, -⟩ := (hm1.rd 0 (by omega)).shape
      obtain ⟨Ar1, cr1, er1, -, -⟩ := (hm1.rd 1 (by omega)).shape
      have EW0 := Lib.hid ew0
      have EW1 := Lib.hid ew1
      have ER0 := Lib.hid er0
      have ER1 := Lib.hid er1
      clear ew0 ew1 er0 er1
      clear hlb hlg hm1 hf1 hbk hlb' hg0' hg1' HQ
      go_wp2_with fail
      clear c0 c1 hl
      go_loopw [116] (fun v wr => ∃ z : Int, v = .int .i64 z ∧ ((z = 0 ∧ Hid (Blk wr (w.heap.size + 1 + 1 + 1) (cellsT l1 false 0 false 0) 160 ∧ Fr (fun k => k = w.heap.size + 1 + 1 + 1) W6 wr)) ∨ (z = 1 ∧ Hid (Blk wr (w.heap.size + 1 + 1 + 1) (cellsT l1 y.a.fin y.a.st false 0) 160 ∧ Fr (fun k => k = w.heap.size + 1 + 1 + 1) W6 wr)) ∨ (z = 2 ∧ Hid (Blk wr (w.heap.size + 1 + 1 + 1) (cellsT l1 y.a.fin y.a.st y.b.fin y.b.st) 160 ∧ Fr (fun k => k = w.heap.size + 1 + 1 + 1) W6 wr)))) (fun v _ => 2 - (intOf v).toNat)
      case atStart => exact ⟨0, rfl, .inl ⟨rfl, HI0⟩⟩
      case round =>
        obtain ⟨z, rfl, hz⟩ := hrel
        obtain ⟨W0, hW0⟩ : ∃ W0, W0 = wr := ⟨_, rfl⟩
        subst hW0
        clear HI0
        rcases hz with ⟨rfl, HI⟩ | ⟨rfl, HI⟩ | ⟨rfl, HI⟩
        · obtain ⟨hbk, hfr⟩ := HI.out
          have HFR := Lib.hid hfr
          have HBK := Lib.hid hbk
          have HC := Lib.hid (HEN.out 0 (by omega) W0.drew hfr.drew)
          have hll := hbk.lt
          clear hbk hfr
          go_wp2_with fail
          go_region_law (refine step_call_gow rfl 55 #[.tmp 123] #[62] rfl #[.pointer (some ⟨l1.g 0, 0, none⟩)] (by simp [Act.eval, Act.put]) (run55w _ _) _ HC.out ?_; rintro v7 w7 ⟨bb, rfl, hb7⟩; have hk7 := HBK.out.drew.fr (Fr.of_grow hb7) id; have c7 := hk7.cell 4; have f7 := hk7.free 4; have l7 := hk7.lt; dsimp only [cellsT] at c7; simp only [List.getElem?_toArray, List.getElem?_cons_succ, List.getElem?_cons_zero] at c7; have HB7 := Lib.hid hb7; have HK7 := Lib.hid hk7; clear hb7 hk7)
          all_goals
            obtain ⟨W8, hW8⟩ : ∃ W8, W8 = w7.setCell ⟨w.heap.size + 1 + 1 + 1, 4, none⟩ (.bool (y.at 0).fin) := ⟨_, rfl⟩
            have hk8 : Blk W8 (w.heap.size + 1 + 1 + 1) (cellsT l1 y.a.fin 0 false 0) 160 := by rw [hW8]; exact HK7.out.set 4 _
            have hf8 : Fr (fun k => k = w.heap.size + 1 + 1 + 1) W6 W8 := by
              rw [hW8]
              exact ((HFR.out.drew).trans ((Fr.of_grow HB7.out).mono (fun _ _ h => h.elim)) (fun _ _ h => h)).setCell (p := ⟨w.heap.size + 1 + 1 + 1, 4, none⟩) (fun _ => rfl) _
            have HF8 := Lib.hid hf8
            have HK8 := Lib.hid hk8
            have HC8 := Lib.hid (HTL.out 0 (by omega) W8.drew hf8.drew)
            have hl8 := hk8.lt
            go_wp2_with fail
            rw [← hW8]
            clear hW8 hk8 hf8 c7 f7 l7 HB7 HK7
            go_region_law (refine step_call_gow rfl 54 #[.tmp 134] #[62] rfl #[.pointer (some ⟨l1.g 0, 0, none⟩)] (by simp [Act.eval, Act.put]) (run54w _ _) _ HC8.out ?_; rintro v9 w9 ⟨q1, q2, rfl, hb9⟩; have hk9 := HK8.out.drew.fr (Fr.of_grow hb9) id; have c9 := hk9.cell 5; have f9 := hk9.free 5; have l9 := hk9.lt; dsimp only [cellsT] at c9; simp only [List.getElem?_toArray, List.getElem?_cons_succ, List.getElem?_cons_zero] at c9; have HB9 := Lib.hid hb9; have HK9 := Lib.hid hk9; clear hb9 hk9)
            all_goals
              have HI9 : Hid (Blk (w9.setCell ⟨w.heap.size + 1 + 1 + 1, 5, none⟩ (.int .i64 (y.at 0).st)) (w.heap.size + 1 + 1 + 1) (cellsT l1 y.a.fin y.a.st false 0) 160 ∧ Fr (fun k => k = w.heap.size + 1 + 1 + 1) W6 (w9.setCell ⟨w.heap.size + 1 + 1 + 1, 5, none⟩ (.int .i64 (y.at 0).st))) := Lib.hid ⟨HK9.out.set 5 _, ((HF8.out.drew).trans ((Fr.of_grow HB9.out).mono (fun _ _ h => h.elim)) (fun _ _ h => h)).setCell (p := ⟨w.heap.size + 1 + 1 + 1, 5, none⟩) (fun _ => rfl) _⟩
              go_wp2
              go_roundw
              case rel => exact ⟨1, rfl, .inr (.inl ⟨rfl, HI9⟩)⟩
              case measure => simp [intOf]
        · obtain ⟨hbk, hfr⟩ := HI.out
          have HFR := Lib.hid hfr
          have HBK := Lib.hid hbk
          have HC := Lib.hid (HEN.out 1 (by omega) W0.drew hfr.drew)
          have hll := hbk.lt
          clear hbk hfr
          go_wp2_with fail
          go_region_law (refine step_call_gow rfl 55 #[.tmp 123] #[62] rfl #[.pointer (some ⟨l1.g 1, 0, none⟩)] (by simp [Act.eval, Act.put]) (run55w _ _) _ HC.out ?_; rintro v7 w7 ⟨bb, rfl, hb7⟩; have hk7 := HBK.out.drew.fr (Fr.of_grow hb7) id; have c7 := hk7.cell 8; have f7 := hk7.free 8; have l7 := hk7.lt; dsimp only [cellsT] at c7; simp only [List.getElem?_toArray, List.getElem?_cons_succ, List.getElem?_cons_zero] at c7; have HB7 := Lib.hid hb7; have HK7 := Lib.hid hk7; clear hb7 hk7)
          all_goals
            obtain ⟨W8, hW8⟩ : ∃ W8, W8 = w7.setCell ⟨w.heap.size + 1 + 1 + 1, 8, none⟩ (.bool (y.at 1).fin) := ⟨_, rfl⟩
            have hk8 : Blk W8 (w.heap.size + 1 + 1 + 1) (cellsT l1 y.a.fin y.a.st y.b.fin 0) 160 := by rw [hW8]; exact HK7.out.set 8 _
            have hf8 : Fr (fun k => k = w.heap.size + 1 + 1 + 1) W6 W8 := by
              rw [hW8]
              exact ((HFR.out.drew).trans ((Fr.of_grow HB7.out).mono (fun _ _ h => h.elim)) (fun _ _ h => h)).setCell (p := ⟨w.heap.size + 1 + 1 + 1, 8, none⟩) (fun _ => rfl) _
            have HF8 := Lib.hid hf8
            have HK8 := Lib.hid hk8
            have HC8 := Lib.hid (HTL.out 1 (by omega) W8.drew hf8.drew)
            have hl8 := hk8.lt
            go_wp2_with fail
            rw [← hW8]
            clear hW8 hk8 hf8 c7 f7 l7 HB7 HK7
            go_region_law (refine step_call_gow rfl 54 #[.tmp 134] #[62] rfl #[.pointer (some ⟨l1.g 1, 0, none⟩)] (by simp [Act.eval, Act.put]) (run54w _ _) _ HC8.out ?_; rintro v9 w9 ⟨q1, q2, rfl, hb9⟩; have hk9 := HK8.out.drew.fr (Fr.of_grow hb9) id; have c9 := hk9.cell 9; have f9 := hk9.free 9; have l9 := hk9.lt; dsimp only [cellsT] at c9; simp only [List.getElem?_toArray, List.getElem?_cons_succ, List.getElem?_cons_zero] at c9; have HB9 := Lib.hid hb9; have HK9 := Lib.hid hk9; clear hb9 hk9)
            all_goals
              have HI9 : Hid (Blk (w9.setCell ⟨w.heap.size + 1 + 1 + 1, 9, none⟩ (.int .i64 (y.at 1).st)) (w.heap.size + 1 + 1 + 1) (cellsT l1 y.a.fin y.a.st y.b.fin y.b.st) 160 ∧ Fr (fun k => k = w.heap.size + 1 + 1 + 1) W6 (w9.setCell ⟨w.heap.size + 1 + 1 + 1, 9, none⟩ (.int .i64 (y.at 1).st))) := Lib.hid ⟨HK9.out.set 9 _, ((HF8.out.drew).trans ((Fr.of_grow HB9.out).mono (fun _ _ h => h.elim)) (fun _ _ h => h)).setCell (p := ⟨w.heap.size + 1 + 1 + 1, 9, none⟩) (fun _ => rfl) _⟩
              go_wp2
              go_roundw
              case rel => exact ⟨2, rfl, .inr (.inr ⟨rfl, HI9⟩)⟩
              case measure => simp [intOf]
        · obtain ⟨hbk, hfr⟩ := HI.out
          have hT := HT6.out.fr hfr (by omega)
          have t0 := hT.cell 0
          have t1 := hT.cell 1
          have t2 := hT.cell 2
          have t3 := hT.cell 3
          have t4 := hT.cell 4
          have t5 := hT.cell 5
          have t6 := hT.cell 6
          have t7 := hT.cell 7
          have tf := hT.free
          have tl := hT.lt
          dsimp [toldC] at t0 t1 t2 t3 t4 t5 t6 t7
          have c2 := hbk.cell 2
          have c3 := hbk.cell 3
          have c4 := hbk.cell 4
          have c5 := hbk.cell 5
          have c6 := hbk.cell 6
          have c7 := hbk.cell 7
          have c8 := hbk.cell 8
          have c9 := hbk.cell 9
          have cl := hbk.lt
          dsimp only [cellsT] at c2 c3 c4 c5 c6 c7 c8 c9
          simp only [List.getElem?_toArray, List.getElem?_cons_succ, List.getElem?_cons_zero] at c2 c3 c4 c5 c6 c7 c8 c9
          have HF9 := Lib.hid (fun W10 h10 => HFIN.out W0 W10 hfr h10)
          rw [EW0.out] at c2
          rw [ER0.out] at c3
          rw [EW1.out] at c6
          rw [ER1.out] at c7
          rw [EW0.out, ER0.out, EW1.out, ER1.out] at HF9
          generalize (y.at 0).said.length = n0 at *
          generalize (y.at 1).said.length = n1 at *
          generalize (y.at 0).rdL.length = m0 at *
          generalize (y.at 1).rdL.length = m1 at *
          clear hbk hfr hT hix0 hix1
          go_wp2
          exact bodyPost_ret (v := .tuple #[.agg #[.slice Aw0 n0 cw0, .slice Ar0 m0 cr0, .bool y.a.fin, .int .i64 y.a.st, .slice Aw1 n1 cw1, .slice Ar1 m1 cr1, .bool y.b.fin, .int .i64 y.b.st], .int .i64 0]) (by simp [results, Try.results80, go_sem, t0, t1, t2, t3, t4, t5, t6, t7]) rfl (HF9.out _ (((((((((Fr.refl (fun k => k = w.heap.size) W0).setCell (p := ⟨w.heap.size, 0, none⟩) (fun _ => rfl) _).setCell (p := ⟨w.heap.size, 1, none⟩) (fun _ => rfl) _).setCell (p := ⟨w.heap.size, 2, none⟩) (fun _ => rfl) _).setCell (p := ⟨w.heap.size, 3, none⟩) (fun _ => rfl) _).setCell (p := ⟨w.heap.size, 4, none⟩) (fun _ => rfl) _).setCell (p := ⟨w.heap.size, 5, none⟩) (fun _ => rfl) _).setCell (p := ⟨w.heap.size, 6, none⟩) (fun _ => rfl) _).setCell (p := ⟨w.heap.size, 7, none⟩) (fun _ => rfl) _))
end Go.Proofs.Ythlhjaacjhlkhaa
/- The reference's line in memory: both ends, what is on its way. -/
namespace Go.Proofs.Ythlhjaacjhlkhaa
open Go.RowKit
set_option maxHeartbeats 400000
set_option linter.unusedVariables false
set_option linter.unusedSimpArgs false
theorem prlinfo : (Try.prog.info? 167).map (fun i => (i.zero, i.size, i.bytes)) = some (some (.agg #[.int .i64 0, .int .u32 0, .int .u32 0, .int .i64 0, .int .i64 0, .slice none 0 0]), 6, 56) := by kernel_rfl
/-- A letter of the reference: to whom, what it says, where its bytes lie. -/
structure Rl where
  who : Nat
  sg : Sg
  A : Option Addr
  c : Nat
def Rl.v (r : Rl) : Value := .slice r.A r.sg.dat.length r.c
def Rl.cl (r : Rl) : List Value := [.int .i64 r.who, .int .u32 r.sg.seq, .int .u32 r.sg.ack, .int .i64 r.sg.flags, .int .i64 r.sg.window, r.v]
theorem Rl.cl_len (r : Rl) : r.cl.length = 6 := rfl
/-- Its bytes lie in blocks of Z. -/
structure Rl.Fine (r : Rl) (W : World) (Z : Nat → Prop) : Prop where
  rb : RB W W.heap.size r.A r.sg.dat.length r.sg.dat
  cap : r.sg.dat.length ≤ r.c ∧ r.c ≤ 9223372036854775807
  own : ∀ k, r.v.ownBlock = some k → Z k
theorem Rl.Fine.fr {r : Rl} {W W' : World} {Z Z' S : Nat → Prop} (h : r.Fine W Z) (hf : Fr S W W') (hS : ∀ k, Z k → ¬ S k) (hZ : ∀ k, Z k → Z' k) : r.Fine W' Z' :=
  ⟨rb_keep (c := r.c) h.rb hf (fun j hj => hS j (h.own j hj)), h.cap, fun k hk => hZ k (h.own k hk)⟩
/-- All that is on its way. -/
def RtL (W : World) (B : Nat) (Z : Nat → Prop) (v : Value) (L : List (Nat × Sg)) : Prop :=
  ∃ rs : List Rl, (rs.map fun r => (r.who, r.sg)) = L ∧ Row W B 167 6 v rs.length (rs.flatMap Rl.cl) ∧ ∀ r ∈ rs, r.Fine W Z
namespace RtL
variable {W W' : World} {B : Nat} {Z Z' S : Nat → Prop} {v : Value} {L : List (Nat × Sg)}
theorem nil (W : World) (B : Nat) (Z : Nat → Prop) : RtL W B Z (.slice none 0 0) [] := ⟨[], rfl, Row.nil _ _ _ _, fun r hr => by cases hr⟩
theorem fr (h : RtL W B Z v L) (hf : Fr S W W') (hv : ∀ k, v.ownBlock = some k → ¬ S k) (hS : ∀ k, Z k → ¬ S k) (hZ : ∀ k, Z k → Z' k) : RtL W' B Z' v L := by
  obtain ⟨rs, e, h1, h2⟩ := h
  exact ⟨rs, e, h1.fr hf hv, fun r hr => (h2 r hr).fr hf hS hZ⟩
theorem shape (h : RtL W B Z v L) : ∃ A c, v = .slice A L.length c ∧ L.length ≤ c ∧ c ≤ maxLen := by
  obtain ⟨rs, e, h1, h2⟩ := h
  obtain ⟨A, c, e2, h3, h4⟩ := h1.shape
  have hl : L.length = rs.length := by rw [← e, List.length_map]
  exact ⟨A, c, by rw [e2, hl], by rw [hl]; exact h3, h4⟩
/-- One letter more: behind the append. -/
theorem app {W1 : World} {A : Option Addr} {c : Nat} (h : RtL W B Z (.slice A L.length c) L) (hb : Below W.heap.size W W1) (hZ : ∀ k, Z k → Z' k) (hZv : ∀ k, (Value.slice A L.length c).ownBlock = some k → ¬ Z' k) {r : Rl} (hr : r.Fine W1 Z') :
    ∃ xs, Row W1 B 167 6 (.slice A L.length c) L.length xs ∧ ∀ W2 A' c', Row W2 B 167 6 (.slice A' (L.length + 1) c') (L.length + 1) (xs ++ r.cl) → W1.grownBy W2 (Value.slice A L.length c).ownBlock → RtL W2 B Z' (.slice A' (L.length + 1) c') (L ++ [(r.who, r.sg)]) := by
  obtain ⟨rs, rfl, h1, h2⟩ := h
  have hl : (rs.map fun r => (r.who, r.sg)).length = rs.length := List.length_map ..
  rw [hl] at h1
  refine ⟨rs.flatMap Rl.cl, by rw [hl]; exact h1.grow hb, fun W2 A' c' hr2 hg => ?_⟩
  rw [hl] at hr2 hg hZv ⊢
  have hf := Fr.of_grown hg
  refine ⟨rs ++ [r], by simp, by simpa using hr2, fun q hq => ?_⟩
  rcases List.mem_append.1 hq with hq | hq
  · exact ((h2 q hq).fr (Fr.of_grow hb) (fun _ _ e => e) hZ).fr hf (fun k hk e => hZv k e hk) (fun _ e => e)
  · rw [List.mem_singleton.1 hq]
    exact hr.fr hf (fun k hk e => hZv k e hk) (fun _ e => e)
end RtL
theorem rls_one (rs : List Rl) : ∀ u ∈ rs.flatMap Rl.cl, u.oneCell' = true := fun u hu => by
  obtain ⟨r, _, hu⟩ := List.mem_flatMap.1 hu
  unfold Rl.cl Rl.v at hu
  simp at hu
  rcases hu with rfl | rfl | rfl | rfl | rfl | rfl <;> rfl
theorem rls_take : ∀ (rs : List Rl) (i : Nat), (rs.flatMap Rl.cl).take (i * 6) = (rs.take i).flatMap Rl.cl
  | [], i => by simp
  | r :: rs, 0 => by simp
  | r :: rs, i + 1 => by
    have ih := rls_take rs i
    have e : (i + 1) * 6 = i * 6 + 1 + 1 + 1 + 1 + 1 + 1 := by omega
    simp only [List.flatMap_cons, Rl.cl, List.cons_append, List.nil_append, List.take_succ_cons, e]
    rw [← ih]
theorem rls_drop : ∀ (rs : List Rl) (i : Nat), (rs.flatMap Rl.cl).drop (i * 6) = (rs.drop i).flatMap Rl.cl
  | [], i => by simp
  | r :: rs, 0 => by simp
  | r :: rs, i + 1 => by
    have ih := rls_drop rs i
    have e : (i + 1) * 6 = i * 6 + 1 + 1 + 1 + 1 + 1 + 1 := by omega
    simp only [List.flatMap_cons, Rl.cl, List.cons_append, List.nil_append, List.drop_succ_cons, e]
    rw [← ih]
/-- One is taken out. -/
theorem rls_erase (rs : List Rl) (i : Nat) : (rs.flatMap Rl.cl).take (i * 6) ++ (rs.flatMap Rl.cl).drop ((i + 1) * 6) = (rs.eraseIdx i).flatMap Rl.cl := by
  rw [rls_take, rls_drop, ← List.flatMap_append, List.eraseIdx_eq_take_drop_succ]
/-- Where a line of the reference lies. -/
structure Ray where
  eb : Nat
  wb : Nat
  q : Nat → Nat
  vo : Nat → Value
  vi : Nat → Value
  v : Value
  z : Nat → Prop
def Ray.parts (l : Ray) : List (Nat → Prop) := [fun k => k = l.eb, fun k => k = l.wb, Ob2F (l.q 0) (l.vo 0) (l.vi 0), Ob2F (l.q 1) (l.vo 1) (l.vi 1), ownV l.v, l.z]
def Ray.ecells (l : Ray) : Array Value := #[.pointer (some ⟨l.q 0, 0, none⟩), .pointer (some ⟨l.q 1, 0, none⟩)]
/-- The reference's line says the system. -/
structure Rn (w : World) (B : Nat) (l : Ray) (y : Sys) : Prop where
  eblk : Blk w l.eb l.ecells 164
  wblk : Blk w l.wb #[l.v] 165
  st : ∀ e, e < 2 → RSt w B (l.q e) (y.at e) (l.vo e) (l.vi e)
  way : RtL w B l.z l.v y.way
  dis : Dis l.parts
  bel : Bel l.parts w.heap.size
  low : B ≤ l.eb ∧ B ≤ l.wb
def Alike (l l' : Ray) : Prop := l'.eb = l.eb ∧ l'.wb = l.wb ∧ l'.q = l.q
def RnQ (w : World) (B : Nat) (l : Ray) (y : Sys) (w' : World) : Prop := ∃ l', Alike l l' ∧ Rn w' B l' y ∧ Fr (fun k => B ≤ k) w w'
def RnP (w : World) (B : Nat) (l : Ray) (y : Sys) (e : Ending) (w' : World) : Prop := e = .returned (.tuple #[]) ∧ RnQ w B l y w'
namespace Rn
variable {w w' : World} {B : Nat} {l : Ray} {y : Sys}
theorem partE (l : Ray) {e : Nat} (he : e < 2) : l.parts[2 + e]? = some (Ob2F (l.q e) (l.vo e) (l.vi e)) := by
  rcases (by omega : e = 0 ∨ e = 1) with rfl | rfl <;> rfl
theorem grow (h : Rn w B l y) (hb : Below w.heap.size w w') : Rn w' B l y :=
  ⟨h.eblk.fr (Fr.of_grow hb) id, h.wblk.fr (Fr.of_grow hb) id, fun e he => Ob2.grow (h.st e he) hb, h.way.fr (Fr.of_grow hb) (fun _ _ => id) (fun _ _ => id) (fun _ => id), h.dis, fun i p hp k hk => Nat.lt_of_lt_of_le (h.bel i p hp k hk) hb.size, h.low⟩
theorem ends_lt (h : Rn w B l y) {g : Nat} (hg : w.heap.size ≤ g) {e : Nat} (he : e < 2) : ¬ Ob2F (l.q e) (l.vo e) (l.vi e) g := fun hk => by
  have := (Ob2.lt (h.st e he) g hk).2
  omega
/-- One end has turned. -/
theorem endGo (h : Rn w B l y) {e : Nat} (he : e < 2) {f : Sm → Sm} (hg : RSGo w B (l.q e) (l.vo e) (l.vi e) (f (y.at e)) w') :
    ∃ vo' vi', Rn w' B { l with vo := upd l.vo e vo', vi := upd l.vi e vi' } (y.onE e f) ∧ Fr (Ob2F (l.q e) (l.vo e) (l.vi e)) w w' := by
  obtain ⟨v1, v2, m, f1, o⟩ := hg
  have hparts : ({ l with vo := upd l.vo e v1, vi := upd l.vi e v2 } : Ray).parts = l.parts.set (2 + e) (Ob2F (l.q e) v1 v2) := by
    rcases (by omega : e = 0 ∨ e = 1) with rfl | rfl <;> rfl
  have other : ∀ {j : Nat} {q : Nat → Prop}, l.parts[j]? = some q → j ≠ 2 + e → ∀ k, q k → ¬ Ob2F (l.q e) (l.vo e) (l.vi e) k := fun hj hne => h.dis.other (partE l he) hj hne
  refine ⟨v1, v2, ⟨h.eblk.fr f1 (other (j := 0) rfl (by omega) l.eb rfl), h.wblk.fr f1 (other (j := 1) rfl (by omega) l.wb rfl), fun i hi => ?_, ?_, ?_, ?_, h.low⟩, f1⟩
  · rw [← y.at_on he f i hi]
    by_cases hie : i = e
    · subst hie
      dsimp only
      rw [upd_same, upd_same, upd_same]
      exact m
    · dsimp only
      rw [upd_other _ hie, upd_other _ hie, upd_other _ hie]
      exact Ob2.keep (h.st i hi) f1 (other (partE l hi) (by omega))
  · rw [Sys.onE_way]
    exact h.way.fr f1 (other (j := 4) rfl (by omega)) (other (j := 5) rfl (by omega)) (fun _ => id)
  · rw [hparts]
    exact h.dis.turn h.bel (partE l he) o
  · rw [hparts]
    exact h.bel.turn f1.size (fun k hk => (Ob2.lt m k hk).2)
/-- The same; a block that is none of the line's keeps what it holds. -/
theorem endGo3 (h : Rn w B l y) {e : Nat} (he : e < 2) {f : Sm → Sm} (hg : RSGo w B (l.q e) (l.vo e) (l.vi e) (f (y.at e)) w') : RnQ w B l (y.onE e f) w' := by
  obtain ⟨v1, v2, h1, h2⟩ := h.endGo he hg
  exact ⟨{ l with vo := upd l.vo e v1, vi := upd l.vi e v2 }, ⟨rfl, rfl, rfl⟩, h1, h2.mono (fun k _ hk => (Ob2.lt (h.st e he) k hk).1)⟩
/-- What is on its way has turned. -/
theorem wayGo (h : Rn w B l y) {w9 : World} {v : Value} {z' : Nat → Prop} {way' : List (Nat × Sg)} (hf : Fr (ownV l.v) w w9) (hl : RtL w9 B z' v way') (ho : ∀ k, v.ownBlock = some k → ownV l.v k ∨ w.heap.size ≤ k) (hz : ∀ k, z' k → l.z k ∨ w.heap.size ≤ k) (hzb : ∀ k, z' k → k < w9.heap.size) (hvz : ∀ k, v.ownBlock = some k → ¬ z' k) :
    Rn (w9.setCell ⟨l.wb, 0, none⟩ v) B { l with v := v, z := z' } { y with way := way' } := by
  have hlv : ∀ k, v.ownBlock = some k → k < w9.heap.size := fun k hk => by
    obtain ⟨rs, _, h1, _⟩ := hl
    exact (h1.lt k hk).2
  have hnb : ¬ ownV l.v l.wb := fun e => h.dis.other (i := 4) (j := 1) rfl rfl (by omega) l.wb rfl e
  have hvb : v.ownBlock ≠ some l.wb := fun e => by
    rcases ho _ e with e2 | e2
    · exact hnb e2
    · have := h.wblk.lt; omega
  have hzl : ¬ z' l.wb := fun e => by
    rcases hz _ e with e2 | e2
    · exact h.dis.other (i := 5) (j := 1) rfl rfl (by omega) l.wb rfl e2
    · have := h.wblk.lt; omega
  have a2 : Fr (fun k => ownV l.v k ∨ k = l.wb) w (w9.setCell ⟨l.wb, 0, none⟩ v) := (hf.mono (S' := fun k => ownV l.v k ∨ k = l.wb) fun k _ e => .inl e).setCell (p := ⟨l.wb, 0, none⟩) (fun _ => .inr rfl) v
  have other : ∀ {j : Nat} {q : Nat → Prop}, l.parts[j]? = some q → j ≠ 4 → j ≠ 1 → ∀ k, q k → ¬ (ownV l.v k ∨ k = l.wb) := fun hj h3 h0 k hk hs => by
    rcases hs with hs | hs
    · exact h.dis.other (i := 4) rfl hj h3 k hk hs
    · exact h.dis.other (i := 1) rfl hj h0 k hk hs
  refine ⟨h.eblk.fr a2 (other (j := 0) rfl (by omega) (by omega) l.eb rfl), ?_, fun i hi => Ob2.keep (h.st i hi) a2 (other (partE l hi) (by omega) (by omega)), ?_, ?_, ?_, h.low⟩
  · have := (h.wblk.fr hf hnb).set 0 v
    simpa using this
  · exact hl.fr ((Fr.refl (fun k => k = l.wb) w9).setCell (p := ⟨l.wb, 0, none⟩) (fun _ => rfl) v) (fun k hk e => hvb (by rw [hk, e])) (fun k hk e => hzl (e ▸ hk)) (fun _ => id)
  · exact h.dis.turn2 (i := 4) (j := 5) h.bel rfl rfl (by omega) ho hz hvz
  · rw [World.size_setCell]
    have hb1 : Bel (l.parts.set 4 (ownV v)) w9.heap.size := h.bel.turn hf.size hlv
    exact hb1.turn (i := 5) (Nat.le_refl _) hzb
/-- The letter at a place. -/
theorem letter (h : Rn w B l y) {i : Nat} {p : Nat × Sg} (hi : y.way[i]? = some p) :
    ∃ (r : Rl) (b o c : Nat), l.v = .slice (some ⟨b, o, none⟩) y.way.length c ∧ y.way.length ≤ c ∧ c ≤ maxLen ∧ r.who = p.1 ∧ r.sg = p.2 ∧ r.Fine w l.z ∧ b < w.heap.size ∧ i < y.way.length ∧ w.cell? ⟨b, o + i * 6, none⟩ = some (.int .i64 r.who) ∧
      w.cell? ⟨b, o + i * 6 + 1, none⟩ = some (.int .u32 r.sg.seq) ∧ w.cell? ⟨b, o + i * 6 + 2, none⟩ = some (.int .u32 r.sg.ack) ∧ w.cell? ⟨b, o + i * 6 + 3, none⟩ = some (.int .i64 r.sg.flags) ∧ w.cell? ⟨b, o + i * 6 + 4, none⟩ = some (.int .i64 r.sg.window) ∧ w.cell? ⟨b, o + i * 6 + 5, none⟩ = some (.slice r.A r.sg.dat.length r.c) := by
  obtain ⟨A, c, ev, hc1, hc2⟩ := h.way.shape
  obtain ⟨rs, e, h1, h2⟩ := h.way
  have hl : rs.length = y.way.length := by rw [← e, List.length_map]
  have hlt : i < y.way.length := (List.getElem?_eq_some_iff.1 hi).1
  rw [ev, hl] at h1
  obtain ⟨b, o, e1, hb, hm, hc⟩ := RS.at_ (n := y.way.length) Rl.cl_len ⟨0, Sg0, none, 0⟩ ⟨h1.reads, hl⟩ hlt
  have hil : i < rs.length := by rw [hl]; exact hlt
  have er : rs.getD i ⟨0, Sg0, none, 0⟩ = rs[i] := by simp [List.getD, List.getElem?_eq_getElem hil]
  rw [er] at hc hm
  have ep : p = (rs[i].who, rs[i].sg) := by
    rw [← e, List.getElem?_map, List.getElem?_eq_getElem hil] at hi
    simpa using hi.symm
  subst e1
  exact ⟨rs[i], b, o, c, ev, hc1, hc2, by rw [ep], by rw [ep], h2 _ hm, hb, hlt, hc 0 _ rfl, hc 1 _ rfl, hc 2 _ rfl, hc 3 _ rfl, hc 4 _ rfl, hc 5 _ rfl⟩
/-- One letter more is on its way: its bytes lie in new blocks or in blocks of the line's. -/
theorem moreGo {W1 : World} {A : Option Addr} {c : Nat} (hm : Rn w B l y) (hev : l.v = .slice A y.way.length c) (hb : Below w.heap.size w W1) (r : Rl) {z' : Nat → Prop} (hzz : ∀ k, l.z k → z' k) (hz : ∀ k, z' k → l.z k ∨ w.heap.size ≤ k) (hzb : ∀ k, z' k → k < W1.heap.size) (hrf : r.Fine W1 z') :
    ∃ xs, Row W1 B 167 6 (.slice A y.way.length c) y.way.length xs ∧ ∀ W2 A' c', Row W2 B 167 6 (.slice A' (y.way.length + 1) c') (y.way.length + 1) (xs ++ r.cl) → W1.grownBy W2 (Value.slice A y.way.length c).ownBlock →
        ((Value.slice A' (y.way.length + 1) c').ownBlock = (Value.slice A y.way.length c).ownBlock ∨ (Value.slice A' (y.way.length + 1) c').ownBlock = some W1.heap.size) →
        Rn (W2.setCell ⟨l.wb, 0, none⟩ (.slice A' (y.way.length + 1) c')) B { l with v := .slice A' (y.way.length + 1) c', z := z' } { y with way := y.way ++ [(r.who, r.sg)] } ∧ Fr (fun k => ownV l.v k ∨ k = l.wb) w (W2.setCell ⟨l.wb, 0, none⟩ (.slice A' (y.way.length + 1) c')) := by
  have hway := hm.way
  rw [hev] at hway
  have hlv : ∀ k, (Value.slice A y.way.length c).ownBlock = some k → k < w.heap.size ∧ ¬ l.z k := fun k hk => by
    have e : l.v.ownBlock = some k := by rw [hev]; exact hk
    exact ⟨hm.bel 4 _ rfl k e, fun hz => hm.dis.other (i := 4) (j := 5) rfl rfl (by omega) k hz e⟩
  have hnz : ∀ k, (Value.slice A y.way.length c).ownBlock = some k → ¬ z' k := fun k hk h5 => by
    rcases hz k h5 with h6 | h6
    · exact (hlv k hk).2 h6
    · have := (hlv k hk).1; omega
  obtain ⟨xs, h1, h2⟩ := hway.app hb (Z' := z') hzz hnz (r := r) hrf
  refine ⟨xs, h1, fun W2 A' c' hr2 hg2 ho2 => ?_⟩
  have h3 := h2 W2 A' c' hr2 hg2
  have hfv : Fr (ownV l.v) w W2 := ((Fr.of_grow hb).mono (S' := ownV l.v) (fun _ _ h => h.elim)).grown hg2 (fun k hk _ => by show l.v.ownBlock = some k; rw [hev]; exact hk)
  have hW1 := hb.size
  have hgs := hg2.size
  refine ⟨Rn.wayGo hm (v := .slice A' (y.way.length + 1) c') (z' := z') hfv h3 (fun k hk => by
      rcases own_cases ho2 hk with h5 | h5
      · exact .inl (by show l.v.ownBlock = some k; rw [hev]; exact h5)
      · exact .inr (by omega)) hz (fun k hk => by have := hzb k hk; omega)
    (fun k hk h5 => by
      rcases own_cases ho2 hk with h6 | h6
      · exact hnz k h6 h5
      · have := hzb k h5; omega), ?_⟩
  exact (hfv.mono (fun k _ hk => .inl hk)).setCell (p := ⟨l.wb, 0, none⟩) (fun _ => .inr rfl) _
/-- One letter is taken out. -/
theorem erase (h : Rn w B l y) (hB : B ≤ w.heap.size) (i : Nat) :
    ∃ A c xs, l.v = .slice A y.way.length c ∧ Reads w w.heap.size 6 A y.way.length xs ∧ (∀ u ∈ xs, u.oneCell' = true) ∧ ∀ W2 v, Below w.heap.size w W2 → (∀ k, v.ownBlock = some k → w.heap.size ≤ k) →
      Row W2 w.heap.size 167 6 v (y.way.length - 1) (xs.take (i * 6) ++ xs.drop ((i + 1) * 6)) → i < y.way.length →
      Rn (W2.setCell ⟨l.wb, 0, none⟩ v) B { l with v := v, z := l.z } { y with way := y.way.eraseIdx i } := by
  obtain ⟨A, c, ev, hc1, hc2⟩ := h.way.shape
  obtain ⟨rs, e, h1, h2⟩ := h.way
  have hl : rs.length = y.way.length := by rw [← e, List.length_map]
  have h1' := h1
  rw [ev, hl] at h1'
  refine ⟨A, c, rs.flatMap Rl.cl, ev, h1'.reads, rls_one rs, fun W2 v hb hv hr2 hi => ?_⟩
  have hsz := hb.size
  refine h.wayGo ((Fr.of_grow hb).mono (fun _ _ e => e.elim)) ⟨rs.eraseIdx i, ?_, ?_, fun r hr => ?_⟩ (fun k hk => .inr (hv k hk)) (fun k hk => .inl hk) (fun k hk => by have := h.bel 5 _ rfl k hk; omega) (fun k hk hz => ?_)
  · rw [← e]
    rw [List.eraseIdx_eq_take_drop_succ, List.eraseIdx_eq_take_drop_succ, List.map_append, List.map_take, List.map_drop]
  · rw [rls_erase] at hr2
    have hle : (rs.eraseIdx i).length = y.way.length - 1 := by rw [List.length_eraseIdx_of_lt (by omega), hl]
    rw [hle]
    exact hr2.base_le hB
  · exact (h2 r (List.mem_of_mem_eraseIdx hr)).fr (Fr.of_grow hb) (fun _ _ e => e) (fun _ e => e)
  · have := h.bel 5 _ rfl k hz
    have := hv k hk
    omega
end Rn
end Go.Proofs.Ythlhjaacjhlkhaa
/- Contract of the reference's send: both ends say what they have to say; what has no room is lost. -/
namespace Go.Proofs.Ythlhjaacjhlkhaa
open Go.RowKit
set_option maxHeartbeats 400000
set_option linter.unusedVariables false
set_option linter.unusedSimpArgs false
theorem idx164a (a b : Value) (W : World) : (Instr.index 164 (.agg #[a, b]) (.int .i64 0)).run Try.prog W = .ok a W := by kernel_rfl
theorem idx164b (a b : Value) (W : World) : (Instr.index 164 (.agg #[a, b]) (.int .i64 1)).run Try.prog W = .ok b W := by kernel_rfl
theorem upd_self {α : Type} (f : Nat → α) (e : Nat) : upd f e (f e) = f := by
  funext i
  by_cases h : i = e
  · subst h; exact upd_same _ _ _
  · exact upd_other _ h _
/-- Blocks that are none of the line's may be counted among those of what is on its way. -/
theorem Rn.zGo {w : World} {B N : Nat} {l : Ray} {y : Sys} (h : Rn w B l y) (hb : Bel l.parts N) : Rn w B { l with z := fun k => l.z k ∨ (N ≤ k ∧ k < w.heap.size) } y := by
  have hparts : ({ l with z := fun k => l.z k ∨ (N ≤ k ∧ k < w.heap.size) } : Ray).parts = l.parts.set 5 (fun k => l.z k ∨ (N ≤ k ∧ k < w.heap.size)) := rfl
  refine ⟨h.eblk, h.wblk, h.st, h.way.fr (Fr.refl Nil w) (fun _ _ e => e) (fun _ _ e => e) (fun k hk => .inl hk), ?_, ?_, h.low⟩
  · rw [hparts]
    exact h.dis.turn (n := N) (i := 5) hb rfl (fun k hk => by
      rcases hk with hk | hk
      · exact .inl hk
      · exact .inr hk.1)
  · rw [hparts]
    exact h.bel.turn (i := 5) (Nat.le_refl _) (fun k hk => by
      rcases hk with hk | hk
      · exact h.bel 5 _ rfl k hk
      · exact hk.2)
/-- In the loop over what one end says: j of it are on their way. W: behind Outs; N: how many blocks there were ahead of it. -/
def RendI (w : World) (B : Nat) (l : Ray) (y : Sys) (e : Nat) (W : World) (N j : Nat) (wr : World) : Prop :=
  ∃ l', Alike l l' ∧ Rn wr B l' { y.onE e (fun s => s.outsO.2) with way := Sys.putW y.way (1 - e) ((y.at e).outsO.1.take j) } ∧ (∀ k, ownV l'.v k → k < N ∨ W.heap.size ≤ k) ∧ (∀ k, N ≤ k → k < W.heap.size → l'.z k) ∧
    Fr (fun k => k < N ∨ W.heap.size ≤ k) W wr ∧ Fr (fun k => B ≤ k) w wr
theorem RendI.start {w wr W : World} {B e m n c : Nat} {l l1 : Ray} {y : Sys} {A : Option Addr} (he : e < 2) (hal : Alike l l1) (hm : Rn wr B l1 y) (hf : Fr (fun k => B ≤ k) w wr) (hw : y.way.length ≤ 64)
    (hO : OutR wr B (l1.q e) (l1.vo e) (l1.vi e) (y.at e) m W (.slice A n c) (y.at e).outsO.1 (y.at e).outsO.2) : RendI w B l y e W wr.heap.size 0 W := by
  have hs := outs_said (y.at e)
  have hgo : Rn W B l1 (y.onE e (fun s => s.outsO.2)) ∧ Fr (Ob2F (l1.q e) (l1.vo e) (l1.vi e)) wr W := by
    have other : ∀ {j : Nat} {q : Nat → Prop}, l1.parts[j]? = some q → j ≠ 2 + e → ∀ k, q k → ¬ Ob2F (l1.q e) (l1.vo e) (l1.vi e) k := fun hj hne => hm.dis.other (Rn.partE l1 he) hj hne
    have f1 : Fr (Ob2F (l1.q e) (l1.vo e) (l1.vi e)) wr W := hO.f.mono (fun k _ e => .inl e)
    refine ⟨⟨hm.eblk.fr f1 (other (j := 0) rfl (by omega) l1.eb rfl), hm.wblk.fr f1 (other (j := 1) rfl (by omega) l1.wb rfl), fun i hi => ?_, ?_, hm.dis, fun i p hp k hk => Nat.lt_of_lt_of_le (hm.bel i p hp k hk) hO.f.size, hm.low⟩, f1⟩
    · rw [← y.at_on he (fun s => s.outsO.2) i hi]
      by_cases hie : i = e
      · subst hie
        rw [upd_same]
        unfold RSt
        rw [hO.sam.said, hO.sam.got]
        exact hO.o
      · rw [upd_other _ hie]
        exact Ob2.keep (hm.st i hi) f1 (other (Rn.partE l1 hi) (by omega))
    · rw [Sys.onE_way]
      exact hm.way.fr f1 (other (j := 4) rfl (by omega)) (other (j := 5) rfl (by omega)) (fun _ => id)
  obtain ⟨h1, h2⟩ := hgo
  refine ⟨{ l1 with z := fun k => l1.z k ∨ (wr.heap.size ≤ k ∧ k < W.heap.size) }, hal, ?_, fun k hk => .inl (hm.bel 4 _ rfl k hk), fun k h3 h4 => .inr ⟨h3, h4⟩, Fr.refl _ _, hf.trans (h2.mono (fun k _ hk => (Ob2.lt (hm.st e he) k hk).1)) (fun _ _ h => h)⟩
  rw [List.take_zero, putW_nil _ hw]
  have h3 := h1.zGo (N := wr.heap.size) hm.bel
  have e9 : ({ y.onE e (fun s => s.outsO.2) with way := y.way } : Sys) = y.onE e (fun s => s.outsO.2) := by
    unfold Sys.onE; split <;> rfl
  rw [e9]
  exact h3
theorem RendI.done {w W wr : World} {B e N j : Nat} {l : Ray} {y : Sys} (h : RendI w B l y e W N j wr) (hj : j = (y.at e).outsO.1.length) : RnQ w B l (y.sayE e) wr := by
  obtain ⟨l', h1, h3, -, -, -, h6⟩ := h
  rw [hj, List.take_length] at h3
  exact ⟨l', h1, h3, h6⟩
/-- There is no room: the letter is lost. -/
theorem RendI.lost {w W wr W1 : World} {B e N j : Nat} {l : Ray} {y : Sys} {sg : Sg} (h : RendI w B l y e W N j wr) (hb : Below wr.heap.size wr W1) (ht : (y.at e).outsO.1.take (j + 1) = (y.at e).outsO.1.take j ++ [sg]) (hf : ¬ (Sys.putW y.way (1 - e) ((y.at e).outsO.1.take j)).length < 64) : RendI w B l y e W N (j + 1) W1 := by
  obtain ⟨l', h1, h3, h4, h7, h5, h6⟩ := h
  refine ⟨l', h1, ?_, h4, h7, h5.trans ((Fr.of_grow hb).mono (fun _ _ h => h.elim)) (fun _ _ h => h), fr_trans h6 (fr_below hb)⟩
  rw [ht, putW_full sg hf]
  exact h3.grow hb
/-- One letter more is on its way. -/
theorem RendI.more {w W wr W1 : World} {B e N j c : Nat} {l l' : Ray} {y : Sys} {A : Option Addr} (hNW : N ≤ W.heap.size)
    (hal : Alike l l') (hm : Rn wr B l' { y.onE e (fun s => s.outsO.2) with way := Sys.putW y.way (1 - e) ((y.at e).outsO.1.take j) }) (hv : ∀ k, ownV l'.v k → k < N ∨ W.heap.size ≤ k) (hz : ∀ k, N ≤ k → k < W.heap.size → l'.z k) (hf : Fr (fun k => k < N ∨ W.heap.size ≤ k) W wr) (hfw : Fr (fun k => B ≤ k) w wr) (hlN : l.wb < N)
    (r : Rl) (hrt : r.who = 1 - e) (ht : (y.at e).outsO.1.take (j + 1) = (y.at e).outsO.1.take j ++ [r.sg]) (hr : (Sys.putW y.way (1 - e) ((y.at e).outsO.1.take j)).length < 64)
    (hev : l'.v = .slice A (Sys.putW y.way (1 - e) ((y.at e).outsO.1.take j)).length c) (hb : Below wr.heap.size wr W1) (hcap : r.sg.dat.length ≤ r.c ∧ r.c ≤ 9223372036854775807) (hrb : RB W1 W1.heap.size r.A r.sg.dat.length r.sg.dat) (hown : ∀ k, r.v.ownBlock = some k → N ≤ k ∧ k < W.heap.size) :
    ∃ xs, Row W1 B 167 6 (.slice A (Sys.putW y.way (1 - e) ((y.at e).outsO.1.take j)).length c) (Sys.putW y.way (1 - e) ((y.at e).outsO.1.take j)).length xs ∧
      ∀ W2 A' c', Row W2 B 167 6 (.slice A' ((Sys.putW y.way (1 - e) ((y.at e).outsO.1.take j)).length + 1) c') ((Sys.putW y.way (1 - e) ((y.at e).outsO.1.take j)).length + 1) (xs ++ r.cl) → W1.grownBy W2 (Value.slice A (Sys.putW y.way (1 - e) ((y.at e).outsO.1.take j)).length c).ownBlock →
        ((Value.slice A' ((Sys.putW y.way (1 - e) ((y.at e).outsO.1.take j)).length + 1) c').ownBlock = (Value.slice A (Sys.putW y.way (1 - e) ((y.at e).outsO.1.take j)).length c).ownBlock ∨ (Value.slice A' ((Sys.putW y.way (1 - e) ((y.at e).outsO.1.take j)).length + 1) c').ownBlock = some W1.heap.size) →
        RendI w B l y e W N (j + 1) (W2.setCell ⟨l.wb, 0, none⟩ (.slice A' ((Sys.putW y.way (1 - e) ((y.at e).outsO.1.take j)).length + 1) c')) := by
  have hP2 := putW_room r.sg hr
  rw [← ht] at hP2
  generalize hP : Sys.putW y.way (1 - e) ((y.at e).outsO.1.take j) = P at *
  obtain ⟨xs, h1, h2⟩ := Rn.moreGo hm hev hb r (z' := l'.z) (fun _ h => h) (fun _ h => .inl h) (fun k hk => Nat.lt_of_lt_of_le (hm.bel 5 _ rfl k hk) hb.size) ⟨hrb, hcap, fun k hk => hz k (hown k hk).1 (hown k hk).2⟩
  refine ⟨xs, h1, fun W2 A' c' hr2 hg2 ho2 => ?_⟩
  obtain ⟨h3, h4⟩ := h2 W2 A' c' hr2 hg2 ho2
  have h1' := h1
  dsimp only at h3 h4
  rw [hrt, ← hP2] at h3
  rw [show l'.wb = l.wb from hal.2.1] at h3 h4
  refine ⟨{ l' with v := .slice A' (P.length + 1) c', z := l'.z }, hal, ?_, fun k hk => ?_, hz, ?_, ?_⟩
  · have := h3
    rw [← show l'.wb = l.wb from hal.2.1] at this ⊢
    exact this
  · have hk : (Value.slice A' (P.length + 1) c').ownBlock = some k := hk
    have hs1 := hb.size
    have hs2 := hf.size
    rcases own_cases ho2 hk with h6 | h6
    · exact hv k (by show l'.v.ownBlock = some k; rw [hev]; exact h6)
    · exact .inr (by omega)
  · exact hf.trans h4 (fun k hk e9 => by
      rcases e9 with e9 | e9
      · exact hv k e9
      · exact .inl (by omega))
  · have hlow := hm.low.2
    rw [show l'.wb = l.wb from hal.2.1] at hlow
    exact hfw.trans h4 (fun k _ e9 => by
      rcases e9 with e9 | e9
      · have h7 : (Value.slice A P.length c).ownBlock = some k := by rw [← hev]; exact e9
        exact (h1'.lt k h7).1
      · omega)
/-- Behind the append the box still holds the elder slice. -/
theorem rend_cell {wr w6 w9 : World} {B P c7 wb : Nat} {l2 : Ray} {y : Sys} {A7 : Option Addr} {o : Obj} (hb : Below wr.heap.size wr w6) (hg : (w6.alloc o).grownBy w9 (Value.slice A7 P c7).ownBlock) (hm : Rn wr B l2 y) (hlb : l2.wb = wb) (he : l2.v = .slice A7 P c7) :
    w9.cell? ⟨wb, 0, none⟩ = some (.slice A7 P c7) ∧ w9.frozen? ⟨wb, 0, none⟩ = false ∧ wb < w9.heap.size := by
  have hbk := ((hm.grow hb).wblk.alloc o).grown hg (fun e => by
    have := hm.dis.other (i := 4) (j := 1) rfl rfl (by omega) l2.wb rfl
    exact this (by show l2.v.ownBlock = some l2.wb; rw [he]; exact e.symm))
  have h10 := hbk.cell 0
  simp only [List.getElem?_toArray, List.getElem?_cons_zero] at h10
  rw [he, hlb] at h10
  have f := hbk.free 0
  have g := hbk.lt
  rw [hlb] at f g
  exact ⟨h10, f, g⟩
/-- The segment at a place, read later on: its bytes lie in blocks that were new then. -/
theorem SgL.seg {W wr : World} {N n c j : Nat} {A : Option Addr} {L : List Sg} (h : SgL W N (.slice A n c) L) (hf : Fr (fun k => k < N ∨ W.heap.size ≤ k) W wr) (hj : j < L.length) :
    ∃ b o A5 c5, A = some ⟨b, o, none⟩ ∧ b < wr.heap.size ∧ RB wr wr.heap.size A5 (L.getD j Sg0).dat.length (L.getD j Sg0).dat ∧ ((L.getD j Sg0).dat.length ≤ c5 ∧ c5 ≤ 9223372036854775807) ∧ (∀ k, (Value.slice A5 (L.getD j Sg0).dat.length c5).ownBlock = some k → N ≤ k ∧ k < W.heap.size) ∧
    wr.cell? ⟨b, o + j * 5, none⟩ = some (.int .u32 (L.getD j Sg0).seq) ∧ wr.cell? ⟨b, o + j * 5 + 1, none⟩ = some (.int .u32 (L.getD j Sg0).ack) ∧ wr.cell? ⟨b, o + j * 5 + 2, none⟩ = some (.int .i64 (L.getD j Sg0).flags) ∧ wr.cell? ⟨b, o + j * 5 + 3, none⟩ = some (.int .i64 (L.getD j Sg0).window) ∧ wr.cell? ⟨b, o + j * 5 + 4, none⟩ = some (.slice A5 (L.getD j Sg0).dat.length c5) := by
  obtain ⟨rs, e, h1, h2⟩ := h
  have key : ∀ {e : TypeId} {sz n : Nat} {v : Value} {xs : List Value}, Row W N e sz v n xs → ∀ k, v.ownBlock = some k → ¬ (k < N ∨ W.heap.size ≤ k) := fun hr k hk hs => by
    have := hr.lt k hk
    omega
  have hl : rs.length = L.length := by rw [← e, List.length_map]
  obtain ⟨A2, c2, e2, _⟩ := h1.shape
  injection e2 with e3 e4 e5
  subst e3; subst e4; subst e5
  obtain ⟨b, o, e1, hb, hm, hc⟩ := RS.at_ (n := rs.length) Sq.cl_len ⟨Sg0, none, 0⟩ ⟨(h1.fr hf (key h1)).reads, rfl⟩ (by omega : j < rs.length)
  have hjl : j < rs.length := by omega
  have es : (rs.getD j ⟨Sg0, none, 0⟩).sg = L.getD j Sg0 := by
    rw [← e]
    simp [List.getD, List.getElem?_eq_getElem hjl]
  rw [← es]
  have hrow := (h2 _ hm).1.fr hf (key (h2 _ hm).1)
  obtain ⟨A6, c6, e6, h7, h8⟩ := hrow.shape
  injection e6 with e7 e8 e9
  exact ⟨b, o, _, _, e1, hb, ⟨hrow.reads, (h2 _ hm).2⟩, ⟨by rw [e9]; exact h7, by rw [e9]; unfold maxLen at h8; omega⟩, fun k hk => (h2 _ hm).1.lt k hk, hc 0 _ rfl, hc 1 _ rfl, hc 2 _ rfl, hc 3 _ rfl, hc 4 _ rfl⟩
section
variable {w : World} {B : Nat} {l : Ray} {y : Sys} {m : Nat}
set_option maxHeartbeats 8000000 in
set_option maxRecDepth 100000 in
theorem rsend_any (h : Rn w B l y) (hok : y.Ok m) (hm : m + 1 ≤ 1000) (hB : B ≤ w.heap.size) : Calls Try.prog 114 #[.pointer (some ⟨l.eb, 0, none⟩), .pointer (some ⟨l.wb, 0, none⟩)] w (RnP w B l y.send) := by
  obtain ⟨i0, hi, hz0, hz1, hz2⟩ := info_parts prlinfo
  have HQ0 : Hid (RnQ w B l y w) := Lib.hid ⟨l, ⟨rfl, rfl, rfl⟩, h, Fr.refl _ _⟩
  have c0 := h.eblk.cell 0
  have c1 := h.eblk.cell 1
  have hl := h.eblk.lt
  have HWL := Lib.hid h.wblk.lt
  dsimp [Ray.ecells] at c0 c1
  have HOK0 := Lib.hid hok
  have HOK1 := Lib.hid hok.say0
  have HM := Lib.hid hm
  have HB := Lib.hid hB
  clear h hok hm hB
  go_enter Try.func114, Try.ntmps114
  go_wp2_with fail
  generalize hg0 : l.q 0 = g0 at *
  generalize hg1 : l.q 1 = g1 at *
  have HG0 := Lib.hid hg0
  have HG1 := Lib.hid hg1
  clear c0 c1 hl hg0 hg1
  have hix0 := idx164a (.pointer (some ⟨g0, 0, none⟩)) (.pointer (some ⟨g1, 0, none⟩))
  have hix1 := idx164b (.pointer (some ⟨g0, 0, none⟩)) (.pointer (some ⟨g1, 0, none⟩))
  go_loopw [7] (fun v wr => ∃ z : Int, v = .int .i64 z ∧ ((z = 0 ∧ Hid (RnQ w B l y wr)) ∨ (z = 1 ∧ Hid (RnQ w B l (y.sayE 0) wr)) ∨ (z = 2 ∧ Hid (RnQ w B l y.send wr)))) (fun v _ => 2 - (intOf v).toNat)
  case atStart => exact ⟨0, rfl, .inl ⟨rfl, HQ0⟩⟩
  case round =>
    obtain ⟨z, rfl, hz⟩ := hrel
    obtain ⟨W0, hW0⟩ : ∃ W0, W0 = wr := ⟨_, rfl⟩
    subst hW0
    rcases hz with ⟨rfl, HQ⟩ | ⟨rfl, HQ⟩ | ⟨rfl, HQ⟩
    · obtain ⟨l1, hal, hm1, hfw⟩ := HQ.out
      have HO := Lib.hid (outs51 (m := m + 0) (hm1.st 0 (by omega)) (Nat.le_trans HB.out hfw.size) (HOK0.out.at_ 0) (by have := HM.out; omega))
      have HS0 := Lib.hid (fun W A n c => RendI.start (w := w) (W := W) (A := A) (n := n) (c := c) (m := m + 0) (l := l) (e := 0) (by omega) hal hm1 hfw HOK0.out.len)
      have HLL : Hid (l.wb < W0.heap.size) := Lib.hid (Nat.lt_of_lt_of_le HWL.out hfw.size)
      have hge : l1.q 0 = g0 := by rw [show l1.q = l.q from hal.2.2]; exact HG0.out
      rw [hge] at HO HS0
      generalize l1.vo 0 = vo at *
      generalize l1.vi 0 = vi at *
      clear hm1 hge
      go_wp2_with fail
      refine HO.out.mono ?_
      rintro e5 w5 ⟨A5, c5, rfl, hO⟩
      have HI0 := Lib.hid (HS0.out w5 A5 _ c5 hO)
      have HSG := Lib.hid hO.l
      have HSZ := Lib.hid hO.f.size
      have hnm := hO.l.max
      obtain ⟨n, hn⟩ : ∃ n, (y.at 0).outsO.1.length = n := ⟨_, rfl⟩
      rw [hn] at HSG hnm ⊢
      have HN := Lib.hid hn
      clear hO hn HO HS0
      go_wp2_with fail
      go_loopw [14] (fun v wr => ∃ j : Nat, j ≤ n ∧ v = .int .i64 j ∧ Hid (RendI w B l y 0 w5 W0.heap.size j wr)) (fun v _ => n - (intOf v).toNat)
      case atStart => exact ⟨0, by omega, rfl, HI0⟩
      case round =>
        obtain ⟨j, hj, rfl, HJ⟩ := hrel
        by_cases hlt : j < n
        · have HJ2 := HJ.out
          obtain ⟨l2, hal2, hm2, hv2, hz2', hf2, hfw2⟩ := HJ2
          obtain ⟨b, o, A4, c4, rfl, hbl, hrb, hcp, how, k0, k1, k2, k3, k4⟩ := SgL.seg HSG.out hf2 (j := j) (by rw [HN.out]; exact hlt)
          have hj5 : (j : Int) < n := by omega
          have hjl : j < (y.at 0).outsO.1.length := by rw [HN.out]; exact hlt
          have hsg : (y.at 0).outsO.1.getD j Sg0 = (y.at 0).outsO.1[j] := by simp [List.getD, List.getElem?_eq_getElem hjl]
          have HT : Hid ((y.at 0).outsO.1.take (j + 1) = (y.at 0).outsO.1.take j ++ [(y.at 0).outsO.1.getD j Sg0]) := Lib.hid (by rw [hsg, List.take_succ_eq_append_getElem hjl])
          clear hsg hjl
          generalize (y.at 0).outsO.1.getD j Sg0 = sg at *
          obtain ⟨q1, q2, q3, q4, ds⟩ := sg
          dsimp only at hrb k0 k1 k2 k3 k4 hcp how
          have HR6 := Lib.hid hrb
          have HCP := Lib.hid hcp
          have HOW := Lib.hid how
          have HM2 := Lib.hid hm2
          have HV2 := Lib.hid hv2
          have HZ2 := Lib.hid hz2'
          have HF2 := Lib.hid hf2
          have HFW2 := Lib.hid hfw2
          have HAL2 := Lib.hid hal2
          obtain ⟨w6, hw6⟩ : ∃ w6, w6 = wr.alloc (.cells #[.int .u32 q1, .int .u32 q2, .int .i64 q3, .int .i64 q4, .slice A4 ds.length c4] 25) := ⟨_, rfl⟩
          have hb60 : Below wr.heap.size wr w6 := by rw [hw6]; exact (Below.refl _ _).alloc (Nat.le_refl _) _
          have hsb : Blk w6 wr.heap.size #[.int .u32 q1, .int .u32 q2, .int .i64 q3, .int .i64 q4, .slice A4 ds.length c4] 25 := by rw [hw6]; exact Blk.new _ _ _
          have HB6 := Lib.hid hb60
          have s0 := hsb.cell 0
          have s1 := hsb.cell 1
          have s2 := hsb.cell 2
          have s3 := hsb.cell 3
          have s4 := hsb.cell 4
          have sl := hsb.lt
          dsimp at s0 s1 s2 s3 s4
          have hg6 := Rn.grow HM2.out hb60
          have h10 := hg6.wblk.cell 0
          have f10 := hg6.wblk.free 0
          have l10 := hg6.wblk.lt
          simp only [List.getElem?_toArray, List.getElem?_cons_zero] at h10
          obtain ⟨A7, c7, e7, h7, h8⟩ := HM2.out.way.shape
          dsimp only at e7 h7
          rw [e7, show l2.wb = l.wb from hal2.2.1] at h10
          rw [show l2.wb = l.wb from hal2.2.1] at f10 l10
          have HW64 : Hid ((Sys.putW y.way (1 - 0) ((y.at 0).outsO.1.take j)).length ≤ 64) := Lib.hid (Sys.putW_len _ _ _)
          have HE7 := Lib.hid e7
          clear hm2 hv2 hz2' hf2 hfw2 hrb hcp how hb60 hsb hg6 e7 hal2
          go_upto_region 6 with fail
          rw [← hw6]
          clear hw6 k0 k1 k2 k3 k4 hbl hix0 hix1
          by_cases hroom : (Sys.putW y.way (1 - 0) ((y.at 0).outsO.1.take j)).length < 64
          · have hbW : Below wr.heap.size wr (w6.alloc (.cells #[.int .i64 1, .int .u32 q1, .int .u32 q2, .int .i64 q3, .int .i64 q4, .slice A4 ds.length c4] 167)) := HB6.out.alloc HB6.out.size _
            obtain ⟨xs, hrow, hnext⟩ := RendI.more (w := w) (W := w5) (N := W0.heap.size) HSZ.out HAL2.out HM2.out HV2.out HZ2.out HF2.out HFW2.out HLL.out ⟨1 - 0, ⟨q1, q2, q3, q4, ds⟩, A4, c4⟩ rfl HT.out hroom HE7.out hbW HCP.out ((HR6.out.below' hbW (Nat.le_refl _)).more hbW.size) HOW.out
            have HROW := Lib.hid hrow
            have HNX := Lib.hid hnext
            have t2 : ((Sys.putW y.way (1 - 0) ((y.at 0).outsO.1.take j)).length : Int) < 64 := by omega
            have t1 := decide_eq_true t2
            clear hrow hnext hbW
            generalize hP : (Sys.putW y.way (1 - 0) ((y.at 0).outsO.1.take j)).length = P at *
            clear hP
            go_wp2_with (at_builtin; refine wpList_append_row _ rfl (.tmp 21) (.tmp 26) 165 rfl B 167 i0 (.agg #[.int .i64 0, .int .u32 0, .int .u32 0, .int .i64 0, .int .i64 0, .slice none 0 0]) 6 56 Try.underlying165 hi hz0 hz1 hz2 rfl (by decide) (.slice A7 P c7) P xs rfl HROW.out (w6.heap.size + 1) (some ⟨w6.heap.size, 0, none⟩) 1 1 [.int .i64 1, .int .u32 q1, .int .u32 q2, .int .i64 q3, .int .i64 q4, .slice A4 ds.length c4] rfl ?c1 ?c3 (by unfold maxLen; omega) (by omega) ?c2 ?_; rotate_left; skip)
            case c1 => exact reads_new2 w6 #[.int .i64 1, .int .u32 q1, .int .u32 q2, .int .i64 q3, .int .i64 q4, .slice A4 ds.length c4] 167 6 rfl
            case c3 => exact ⟨rfl, rfl, rfl, rfl, rfl, rfl⟩
            case c2 => have := HB6.out.size; have := HFW2.out.size; have := HB.out; simp; omega
            intro A9 c9 w9 hr9 hg9 ho9
            have HN9 := Lib.hid (HNX.out w9 A9 c9 hr9 hg9 (by simpa using ho9))
            obtain ⟨c10, f109, l109⟩ := rend_cell HB6.out hg9 HM2.out HAL2.out.2.1 HE7.out
            clear hr9 hg9 ho9 h10 f10 l10
            go_wp2
            go_roundw
            case rel => exact ⟨j + 1, by omega, by go_num, HN9⟩
            case measure => simp [intOf]; omega
          · have HL9 := Lib.hid (RendI.lost HJ.out HB6.out HT.out hroom)
            have t2 : ¬ ((Sys.putW y.way (1 - 0) ((y.at 0).outsO.1.take j)).length : Int) < 64 := by omega
            have t1 := decide_eq_false t2
            clear hroom
            generalize (Sys.putW y.way (1 - 0) ((y.at 0).outsO.1.take j)).length = P at *
            go_wp2
            go_roundw
            case rel => exact ⟨j + 1, by omega, by go_num, HL9⟩
            case measure => simp [intOf]; omega
        · obtain rfl : j = n := by omega
          have HD := Lib.hid (RendI.done HJ.out HN.out.symm)
          go_wp2
          go_roundw
          case rel => exact ⟨1, rfl, .inr (.inl ⟨rfl, HD⟩)⟩
          case measure => simp [intOf]
    · obtain ⟨l1, hal, hm1, hfw⟩ := HQ.out
      have HO := Lib.hid (outs51 (m := m + 1) (hm1.st 1 (by omega)) (Nat.le_trans HB.out hfw.size) (HOK1.out.at_ 1) (by have := HM.out; omega))
      have HS0 := Lib.hid (fun W A n c => RendI.start (w := w) (W := W) (A := A) (n := n) (c := c) (m := m + 1) (l := l) (e := 1) (by omega) hal hm1 hfw HOK1.out.len)
      have HLL : Hid (l.wb < W0.heap.size) := Lib.hid (Nat.lt_of_lt_of_le HWL.out hfw.size)
      have hge : l1.q 1 = g1 := by rw [show l1.q = l.q from hal.2.2]; exact HG1.out
      rw [hge] at HO HS0
      generalize l1.vo 1 = vo at *
      generalize l1.vi 1 = vi at *
      clear hm1 hge
      go_wp2_with fail
      refine HO.out.mono ?_
      rintro e5 w5 ⟨A5, c5, rfl, hO⟩
      have HI0 := Lib.hid (HS0.out w5 A5 _ c5 hO)
      have HSG := Lib.hid hO.l
      have HSZ := Lib.hid hO.f.size
      have hnm := hO.l.max
      obtain ⟨n, hn⟩ : ∃ n, ((y.sayE 0).at 1).outsO.1.length = n := ⟨_, rfl⟩
      rw [hn] at HSG hnm ⊢
      have HN := Lib.hid hn
      clear hO hn HO HS0
      go_wp2_with fail
      go_loopw [14] (fun v wr => ∃ j : Nat, j ≤ n ∧ v = .int .i64 j ∧ Hid (RendI w B l (y.sayE 0) 1 w5 W0.heap.size j wr)) (fun v _ => n - (intOf v).toNat)
      case atStart => exact ⟨0, by omega, rfl, HI0⟩
      case round =>
        obtain ⟨j, hj, rfl, HJ⟩ := hrel
        by_cases hlt : j < n
        · have HJ2 := HJ.out
          obtain ⟨l2, hal2, hm2, hv2, hz2', hf2, hfw2⟩ := HJ2
          obtain ⟨b, o, A4, c4, rfl, hbl, hrb, hcp, how, k0, k1, k2, k3, k4⟩ := SgL.seg HSG.out hf2 (j := j) (by rw [HN.out]; exact hlt)
          have hj5 : (j : Int) < n := by omega
          have hjl : j < ((y.sayE 0).at 1).outsO.1.length := by rw [HN.out]; exact hlt
          have hsg : ((y.sayE 0).at 1).outsO.1.getD j Sg0 = ((y.sayE 0).at 1).outsO.1[j] := by simp [List.getD, List.getElem?_eq_getElem hjl]
          have HT : Hid (((y.sayE 0).at 1).outsO.1.take (j + 1) = ((y.sayE 0).at 1).outsO.1.take j ++ [((y.sayE 0).at 1).outsO.1.getD j Sg0]) := Lib.hid (by rw [hsg, List.take_succ_eq_append_getElem hjl])
          clear hsg hjl
          generalize ((y.sayE 0).at 1).outsO.1.getD j Sg0 = sg at *
          obtain ⟨q1, q2, q3, q4, ds⟩ := sg
          dsimp only at hrb k0 k1 k2 k3 k4 hcp how
          have HR6 := Lib.hid hrb
          have HCP := Lib.hid hcp
          have HOW := Lib.hid how
          have HM2 := Lib.hid hm2
          have HV2 := Lib.hid hv2
          have HZ2 := Lib.hid hz2'
          have HF2 := Lib.hid hf2
          have HFW2 := Lib.hid hfw2
          have HAL2 := Lib.hid hal2
          obtain ⟨w6, hw6⟩ : ∃ w6, w6 = wr.alloc (.cells #[.int .u32 q1, .int .u32 q2, .int .i64 q3, .int .i64 q4, .slice A4 ds.length c4] 25) := ⟨_, rfl⟩
          have hb60 : Below wr.heap.size wr w6 := by rw [hw6]; exact (Below.refl _ _).alloc (Nat.le_refl _) _
          have hsb : Blk w6 wr.heap.size #[.int .u32 q1, .int .u32 q2, .int .i64 q3, .int .i64 q4, .slice A4 ds.length c4] 25 := by rw [hw6]; exact Blk.new _ _ _
          have HB6 := Lib.hid hb60
          have s0 := hsb.cell 0
          have s1 := hsb.cell 1
          have s2 := hsb.cell 2
          have s3 := hsb.cell 3
          have s4 := hsb.cell 4
          have sl := hsb.lt
          dsimp at s0 s1 s2 s3 s4
          have hg6 := Rn.grow HM2.out hb60
          have h10 := hg6.wblk.cell 0
          have f10 := hg6.wblk.free 0
          have l10 := hg6.wblk.lt
          simp only [List.getElem?_toArray, List.getElem?_cons_zero] at h10
          obtain ⟨A7, c7, e7, h7, h8⟩ := HM2.out.way.shape
          dsimp only at e7 h7
          rw [e7, show l2.wb = l.wb from hal2.2.1] at h10
          rw [show l2.wb = l.wb from hal2.2.1] at f10 l10
          have HW64 : Hid ((Sys.putW (y.sayE 0).way (1 - 1) (((y.sayE 0).at 1).outsO.1.take j)).length ≤ 64) := Lib.hid (Sys.putW_len _ _ _)
          have HE7 := Lib.hid e7
          clear hm2 hv2 hz2' hf2 hfw2 hrb hcp how hb60 hsb hg6 e7 hal2
          go_upto_region 6 with fail
          rw [← hw6]
          clear hw6 k0 k1 k2 k3 k4 hbl hix0 hix1
          by_cases hroom : (Sys.putW (y.sayE 0).way (1 - 1) (((y.sayE 0).at 1).outsO.1.take j)).length < 64
          · have hbW : Below wr.heap.size wr (w6.alloc (.cells #[.int .i64 0, .int .u32 q1, .int .u32 q2, .int .i64 q3, .int .i64 q4, .slice A4 ds.length c4] 167)) := HB6.out.alloc HB6.out.size _
            obtain ⟨xs, hrow, hnext⟩ := RendI.more (w := w) (W := w5) (N := W0.heap.size) HSZ.out HAL2.out HM2.out HV2.out HZ2.out HF2.out HFW2.out HLL.out ⟨1 - 1, ⟨q1, q2, q3, q4, ds⟩, A4, c4⟩ rfl HT.out hroom HE7.out hbW HCP.out ((HR6.out.below' hbW (Nat.le_refl _)).more hbW.size) HOW.out
            have HROW := Lib.hid hrow
            have HNX := Lib.hid hnext
            have t2 : ((Sys.putW (y.sayE 0).way (1 - 1) (((y.sayE 0).at 1).outsO.1.take j)).length : Int) < 64 := by omega
            have t1 := decide_eq_true t2
            clear hrow hnext hbW
            generalize hP : (Sys.putW (y.sayE 0).way (1 - 1) (((y.sayE 0).at 1).outsO.1.take j)).length = P at *
            clear hP
            go_wp2_with (at_builtin; refine wpList_append_row _ rfl (.tmp 21) (.tmp 26) 165 rfl B 167 i0 (.agg #[.int .i64 0, .int .u32 0, .int .u32 0, .int .i64 0, .int .i64 0, .slice none 0 0]) 6 56 Try.underlying165 hi hz0 hz1 hz2 rfl (by decide) (.slice A7 P c7) P xs rfl HROW.out (w6.heap.size + 1) (some ⟨w6.heap.size, 0, none⟩) 1 1 [.int .i64 0, .int .u32 q1, .int .u32 q2, .int .i64 q3, .int .i64 q4, .slice A4 ds.length c4] rfl ?c1 ?c3 (by unfold maxLen; omega) (by omega) ?c2 ?_; rotate_left; skip)
            case c1 => exact reads_new2 w6 #[.int .i64 0, .int .u32 q1, .int .u32 q2, .int .i64 q3, .int .i64 q4, .slice A4 ds.length c4] 167 6 rfl
            case c3 => exact ⟨rfl, rfl, rfl, rfl, rfl, rfl⟩
            case c2 => have := HB6.out.size; have := HFW2.out.size; have := HB.out; simp; omega
            intro A9 c9 w9 hr9 hg9 ho9
            have HN9 := Lib.hid (HNX.out w9 A9 c9 hr9 hg9 (by simpa using ho9))
            obtain ⟨c10, f109, l109⟩ := rend_cell HB6.out hg9 HM2.out HAL2.out.2.1 HE7.out
            clear hr9 hg9 ho9 h10 f10 l10
            go_wp2
            go_roundw
            case rel => exact ⟨j + 1, by omega, by go_num, HN9⟩
            case measure => simp [intOf]; omega
          · have HL9 := Lib.hid (RendI.lost HJ.out HB6.out HT.out hroom)
            have t2 : ¬ ((Sys.putW (y.sayE 0).way (1 - 1) (((y.sayE 0).at 1).outsO.1.take j)).length : Int) < 64 := by omega
            have t1 := decide_eq_false t2
            clear hroom
            generalize (Sys.putW (y.sayE 0).way (1 - 1) (((y.sayE 0).at 1).outsO.1.take j)).length = P at *
            go_wp2
            go_roundw
            case rel => exact ⟨j + 1, by omega, by go_num, HL9⟩
            case measure => simp [intOf]; omega
        · obtain rfl : j = n := by omega
          have HD := Lib.hid (RendI.done HJ.out HN.out.symm)
          go_wp2
          go_roundw
          case rel => exact ⟨2, rfl, .inr (.inr ⟨rfl, HD⟩)⟩
          case measure => simp [intOf]
    · have HP : Hid (RnP w B l y.send (.returned (.tuple #[])) W0) := Lib.hid ⟨rfl, HQ.out⟩
      go_wp2
      go_end0
      exact HP.out
end
end Go.Proofs.Ythlhjaacjhlkhaa
/- The reference's line: what each call leaves; its start. -/
namespace Go.Proofs.Ythlhjaacjhlkhaa
open Go.RowKit
set_option maxHeartbeats 400000
set_option linter.unusedVariables false
set_option linter.unusedSimpArgs false
/-- A slice from k on. -/
theorem row_cut_runS (P : Program) {t e : TypeId} {size : Nat} (ht : P.underlying t = some (.slice e)) (hel : P.elem t = e) (hs : ∀ W, (sizeOf e).run P W = .ok size W) {w : World} {base n c : Nat} {A : Option Addr} {xs : List Value} (h : Row w base e size (.slice A n c) n xs) (k : Nat) (hk : k ≤ n) (hc : n ≤ c) :
    ∃ A', (∀ W, (Instr.slice t (.slice A n c) (some (.int .i64 (k : Int))) none none).run P W = .ok (.slice A' (n - k) (c - k)) W) ∧ Row w base e size (.slice A' (n - k) (c - k)) (n - k) (xs.drop (k * size)) := by
  refine ⟨if c = k then A else A.map (·.add (k * size)), fun W => ?_, by simpa using h.cut hk⟩
  rw [run_slice_l (P := P) W t A n c (by rw [hel]; exact ht) .i64 k (by omega) (by omega), hel, hs]
  cases A <;> simp [sliced, Result.andThen, add_plain]
theorem sizeOf167 (W : World) : (sizeOf 167).run Try.prog W = .ok 6 W := by kernel_rfl
theorem elem165 : Try.prog.elem 165 = 167 := by kernel_rfl
/-- What one call leaves of the line. -/
def RnV (w : World) (B : Nat) (l : Ray) (y : Sys) (e : Ending) (w' : World) : Prop := ∃ v, e = .returned v ∧ RnQ w B l y w'
section
variable {w : World} {B : Nat} {l : Ray} {y : Sys} {m : Nat} {e : Nat}
theorem una_le {s : Sm} (h : s.Ok m) (hm : m ≤ 1000) : s.una ≤ 1000000 := by
  have := h.un
  have := h.nt
  have := h.top_le hm
  omega
theorem r_given (h : Rn w B l y) (hok : y.Ok m) (hm : m ≤ 1000) (he : e < 2) (hB : B ≤ w.heap.size) (A : Option Addr) (n c : Nat) (ds : List Int) (hd : RB w B A n ds) (hnc : n ≤ c) (hcm : c ≤ 9223372036854775807) :
    Calls Try.prog 42 #[.pointer (some ⟨l.q e, 0, none⟩), .slice A n c] w (RnV w B l (y.onE e fun s => s.givenS ds)) := by
  have ok := hok.at_ e
  refine (rgiven (h.st e he) hB (una_le ok hm) (by have := ok.said; omega) ok.room A n c ds hd hnc hcm).mono ?_
  rintro e9 w' ⟨rfl, hg⟩
  exact ⟨_, rfl, h.endGo3 he (f := fun s => s.givenS ds) hg⟩
theorem r_taken (h : Rn w B l y) (hok : y.Ok m) (hm : m ≤ 1000) (he : e < 2) (hB : B ≤ w.heap.size) (n : Int) :
    Calls Try.prog 44 #[.pointer (some ⟨l.q e, 0, none⟩), .int .i64 n] w (RnV w B l (y.onE e fun s => s.takenS n)) := by
  have ok := hok.at_ e
  refine (rtaken (h.st e he) hB ok.rd (by have := ok.got; omega) n).mono ?_
  rintro e9 w' ⟨A, c, rfl, -, hg⟩
  exact ⟨_, rfl, h.endGo3 he (f := fun s => s.takenS n) hg⟩
theorem r_closed (h : Rn w B l y) (he : e < 2) : Calls Try.prog 46 #[.pointer (some ⟨l.q e, 0, none⟩)] w (RnV w B l (y.onE e Sm.closedS)) := by
  refine (rclosed (h.st e he)).mono ?_
  rintro e9 w' ⟨rfl, hg⟩
  exact ⟨_, rfl, h.endGo3 he (f := Sm.closedS) hg⟩
theorem r_ticked (h : Rn w B l y) (hok : y.Ok m) (he : e < 2) : Calls Try.prog 48 #[.pointer (some ⟨l.q e, 0, none⟩)] w (RnP w B l (y.onE e Sm.tickedS)) := by
  have ok := hok.at_ e
  refine (rticked (h.st e he) ok.wait ok.tries).mono ?_
  rintro e9 w' ⟨rfl, hg⟩
  exact ⟨rfl, h.endGo3 he (f := Sm.tickedS) hg⟩
theorem r_came (h : Rn w B l y) (hok : y.Ok m) (hm : m ≤ 1000) (he : e < 2) (hB : B ≤ w.heap.size) (p : Sg) (hp : p.Fine) (A : Option Addr) (c : Nat) (hd : RB w w.heap.size A p.dat.length p.dat) (hz : ∀ k, (Value.slice A p.dat.length c).ownBlock = some k → l.z k) (hnc : p.dat.length ≤ c) (hcm : c ≤ 9223372036854775807) :
    Calls Try.prog 53 #[.pointer (some ⟨l.q e, 0, none⟩), .agg #[.int .u32 p.seq, .int .u32 p.ack, .int .i64 p.flags, .int .i64 p.window, .slice A p.dat.length c]] w (RnV w B l (y.onE e fun s => s.cameS p)) := by
  have ok := hok.at_ e
  have hf := hp.flags
  have hw := hp.window
  refine (rcameF (h.st e he) hB p hp.seq hp.ack (by omega) (by omega) A p.dat.length c ⟨hd, fun b o e1 h0 hk => ?_⟩ hnc hcm ok hm).mono ?_
  · exact h.dis.other (i := 5) (j := 2 + e) rfl (Rn.partE l he) (by omega) b hk (hz b (by rw [e1]; rfl))
  · rintro e9 w' ⟨rfl, hg⟩
    rw [fine_check hp, if_pos rfl] at hg
    exact ⟨_, rfl, h.endGo3 he (f := fun s => s.cameS p) hg⟩
end
theorem RnQ.trans {w w' w'' : World} {B : Nat} {l l' : Ray} {y : Sys} (h : RnQ w' B l' y w'') (hal : Alike l l') (hf : Fr (fun k => B ≤ k) w w') : RnQ w B l y w'' := by
  obtain ⟨l2, h1, h3, h4⟩ := h
  exact ⟨l2, ⟨h1.1.trans hal.1, h1.2.1.trans hal.2.1, h1.2.2.trans hal.2.2⟩, h3, fr_trans hf h4⟩
theorem RnQ.grow {w w' w'' : World} {B : Nat} {l : Ray} {y : Sys} (h : RnQ w B l y w') (hb : Below w'.heap.size w' w'') : RnQ w B l y w'' := by
  obtain ⟨l2, h1, h3, h4⟩ := h
  exact ⟨l2, h1, h3.grow hb, fr_trans h4 (fr_below hb)⟩
/-- The reference's line at its start. -/
def ray0 (eb wb q0 q1 : Nat) : Ray := ⟨eb, wb, fun e => if e = 0 then q0 else q1, fun _ => .slice none 0 0, fun _ => .slice none 0 0, .slice none 0 0, fun _ => False⟩
theorem ray0_part (eb wb q0 q1 : Nat) {i k : Nat} {p : Nat → Prop} (h : (ray0 eb wb q0 q1).parts[i]? = some p) (hk : p k) : (i = 0 ∧ k = eb) ∨ (i = 1 ∧ k = wb) ∨ (i = 2 ∧ k = q0) ∨ (i = 3 ∧ k = q1) := by
  have nil : ∀ k, ¬ ownV (.slice none 0 0) k := fun k hk => by simp [ownV, Value.ownBlock] at hk
  match i, h with
  | 0, h => injection h with h; subst h; exact .inl ⟨rfl, hk⟩
  | 1, h => injection h with h; subst h; exact .inr (.inl ⟨rfl, hk⟩)
  | 2, h => injection h with h; subst h; exact .inr (.inr (.inl ⟨rfl, nilF hk⟩))
  | 3, h => injection h with h; subst h; exact .inr (.inr (.inr ⟨rfl, nilF hk⟩))
  | 4, h => injection h with h; subst h; exact absurd hk (nil k)
  | 5, h => injection h with h; subst h; exact hk.elim
  | n + 6, h => cases h
theorem Rn.start {w : World} {B eb wb q0 q1 : Nat} {a b : Int} (h1 : eb ≠ wb) (h2 : q0 ≠ q1) (h3 : eb ≠ q0 ∧ eb ≠ q1 ∧ wb ≠ q0 ∧ wb ≠ q1) (hlow : B ≤ eb ∧ B ≤ wb) (heb : Blk w eb (ray0 eb wb q0 q1).ecells 164) (hwb : Blk w wb #[.slice none 0 0] 165)
    (he0 : RSt w B q0 (Sm.start 2 a) (.slice none 0 0) (.slice none 0 0)) (he1 : RSt w B q1 (Sm.start 1 b) (.slice none 0 0) (.slice none 0 0)) : Rn w B (ray0 eb wb q0 q1) (Sys.start a b) := by
  have l1 := heb.lt
  have l2 := hwb.lt
  have l3 := (Ob2.blk he0).lt
  have l4 := (Ob2.blk he1).lt
  refine ⟨heb, hwb, fun e he => ?_, RtL.nil _ _ _, fun i j p q hi hj hne k hk hk' => ?_, fun i p hi k hk => ?_, hlow⟩
  · rcases (by omega : e = 0 ∨ e = 1) with rfl | rfl
    · exact he0
    · exact he1
  · have := ray0_part eb wb q0 q1 hi hk
    have := ray0_part eb wb q0 q1 hj hk'
    omega
  · have := ray0_part eb wb q0 q1 hi hk
    omega
/-- An append onto an empty slice of the call's own: it makes new memory or leaves all as it is. -/
theorem run_append_litS {P : Program} (w : World) (base : Nat) (t ty e : TypeId) (i : TypeInfo) (z : Value) (size bytes : Nat) (ht : P.underlying t = some (.slice e)) (hi : P.info? e = some i) (hz : i.zero = some z)
    (hsize : i.size = size) (hby : i.bytes = bytes) (hzs : z.cells.size = size) (hsz : 0 < size) (g : Nat) (hown : Row w base e size (.slice (some ⟨g, 0, none⟩) 0 0) 0 [])
    (B : Nat) (A : Option Addr) (m c : Nat) (news : List Value) (hr : Reads w B size A m news)
    (h63 : m ≤ maxLen) (hbytes : m * bytes ≤ 140737488355328) (hbase : base ≤ w.heap.size) :
    ∃ A' c' w', (Builtin.append_ #[t, t] ty #[.slice (some ⟨g, 0, none⟩) 0 0, .slice A m c]).run P w = .ok (.slice A' m c') w' ∧ Row w' base e size (.slice A' m c') m news ∧ w.grownBy w' none := by
  subst hsize
  subst hby
  rcases Nat.eq_zero_or_pos m with h0 | h0
  · subst h0
    have hn : news = [] := List.eq_nil_of_length_eq_zero (by simpa using hr.1)
    subst hn
    refine ⟨some ⟨g, 0, none⟩, 0, w, ?_, hown, World.grownBy.refl w _⟩
    cases A <;> simp [Builtin.append_, run_underlying ht, sizeOf, typeInfo, hi, Builtin.lenOf, Builtin.firstCells, storeCells, loadCells, loadCellsFrom]
  · obtain ⟨b, o', rfl, _, hc⟩ := hr.2 h0
    have hnews : ∀ j u, news[j]? = some u → w.cell? ((⟨b, o', none⟩ : Addr).add j) = some u := fun j u hu => by rw [add_plain]; exact hc j u hu
    have hsmall : m ≤ 9223372036854775807 := by simp only [maxLen] at h63; omega
    have hru := run_append_grow (P := P) w t ty e i z ht hi hz ⟨g, 0, none⟩ 0 0 [] (by simp) (fun j u hu => by simp at hu) ⟨b, o', none⟩ m c news hr.1 hnews (by omega) (by omega) (growslice_fits (by omega) (by simpa using hbytes))
    simp only [Nat.zero_add, List.nil_append, Array.empty_append] at hru
    have hge := grownCap_ge w m 0 e
    have hcm : grownCap w m 0 e ≤ maxLen := grownCap_le_maxLen w m 0 e h63
    refine ⟨_, _, _, hru, ⟨hr.1, .inr ⟨w.heap.size, 0, _, _, rfl, hbase, heap_alloc_new w.drew _, hge, hcm, ?_, fun j u hu => ?_⟩⟩, ⟨rfl, rfl, rfl, by simp, fun k hk _ => heap_alloc_old w.drew _ hk⟩⟩
    · simp only [Array.size_append, List.size_toArray, size_zeroCells, hzs, hr.1, Array.size_empty, Nat.zero_add, ← Nat.add_mul]
      exact Nat.le_of_eq (by congr 1; omega)
    · have hj : j < news.length := (List.getElem?_eq_some_iff.1 hu).1
      simp only [Nat.zero_add]
      rw [Array.getElem?_append_left (by simpa using hj)]
      simpa using hu
theorem wpList_append_litS {P : Program} (w : World) {ops : Array Oper} {rest : List Oper} {o : Oper} {a : Act} {Q : Exit → Act → World → Prop} (hgd : o.guard = none) (s x : Operand) (t : TypeId)
    (ho : o.op = .call { callee := .builtin .append, args := #[s, x], argTypes := #[t, t] })
    (base : Nat) (e : TypeId) (i : TypeInfo) (z : Value) (size bytes : Nat) (ht : P.underlying t = some (.slice e)) (hi : P.info? e = some i) (hz : i.zero = some z)
    (hsize : i.size = size) (hby : i.bytes = bytes) (hzs : z.cells.size = size) (hsz : 0 < size) (g : Nat) (hs : a.eval s = .slice (some ⟨g, 0, none⟩) 0 0) (hown : Row w base e size (.slice (some ⟨g, 0, none⟩) 0 0) 0 [])
    (B : Nat) (A : Option Addr) (m c : Nat) (news : List Value) (hx : a.eval x = .slice A m c) (hr : Reads w B size A m news)
    (h63 : m ≤ maxLen) (hbytes : m * bytes ≤ 140737488355328) (hbase : base ≤ w.heap.size)
    (h : ∀ A' c' w', Row w' base e size (.slice A' m c') m news → Below w.heap.size w w' → wpList P ops Q rest (a.put o.dst (.slice A' m c')) w') : wpList P ops Q (o :: rest) a w :=
  wpList_plain hgd fun K hK => by
    obtain ⟨A', c', w', hrun, h2, h3⟩ := run_append_litS (P := P) w base t o.type e i z size bytes ht hi hz hsize hby hzs hsz g hown B A m c news hr h63 hbytes hbase
    unfold Oper.wp execOp
    simp only [ho, resolve, invoke, builtin, Sem.run_bind, Sem.run_pure, Result.andThen_ok, List.map_toArray, List.map_cons, List.map_nil, hs, hx, hrun]
    exact hK _ _ (h A' c' w' h2 ⟨h3.os, h3.tape, h3.output, h3.size, fun k hk => h3.block k hk (fun e => by cases e)⟩)
theorem row_lit0 (w : World) (base : Nat) (e : TypeId) (size : Nat) (hb : base ≤ w.heap.size) : Row (w.alloc (.cells #[] e)) base e size (.slice (some ⟨w.heap.size, 0, none⟩) 0 0) 0 [] :=
  ⟨by simp, .inr ⟨w.heap.size, 0, 0, #[], rfl, hb, Blk.new w #[] e, Nat.le_refl _, by simp, by simp, fun j u hu => by simp at hu⟩⟩
end Go.Proofs.Ythlhjaacjhlkhaa
