/- The reference's Lined; the law ringlaw4.WireRun. -/
import Derived.Test.YthlhjaacjhlkhaaWwB
import Derived.Deep.RegionHeld3
import Derived.Deep.CutBlock
import Derived.Deep.DeepCutAuto
import Derived.LoopTactic
/- Contract of the reference's Lined. -/
namespace Go.Proofs.Ythlhjaacjhlkhaa
open Go.RowKit
set_option maxHeartbeats 400000
set_option linter.unusedVariables false
set_option linter.unusedSimpArgs false
set_option maxRecDepth 100000 in
theorem lined_large (a b : Int) (A : Option Addr) (n c : Nat) (w : World) (hn : 200 < n) :
    Calls Try.prog 81 #[.int .u32 a, .int .u32 b, .slice A n c] w fun e w' => e = .returned (.tuple #[toldZ, .int .i64 2]) ∧ Below w.heap.size w w' := by
  have t1 : decide ((200 : Int) < (n : Int)) = true := by simp; omega
  go_enter Try.func81, Try.ntmps81
  go_wp2
  exact bodyPost_ret (v := .tuple #[toldZ, .int .i64 2]) (by simp [results, Try.results81, go_sem, toldZ]) rfl ⟨rfl, (Below.refl _ _).alloc (Nat.le_refl _) _⟩
theorem run42r (args : Array Value) (w : World) : (callFunc 42 args).run Try.prog w = .ok (.enter 42 args) w := by
  have h := Try.func42
  simp [callFunc, go_sem, h, Try.f42]
theorem run44r (args : Array Value) (w : World) : (callFunc 44 args).run Try.prog w = .ok (.enter 44 args) w := by
  have h := Try.func44
  simp [callFunc, go_sem, h, Try.f44]
theorem run53r (args : Array Value) (w : World) : (callFunc 53 args).run Try.prog w = .ok (.enter 53 args) w := by
  have h := Try.func53
  simp [callFunc, go_sem, h, Try.f53]
theorem deed_r1 (y : Sys) (e n : Int) (ds : List Int) (he : e = 0 ∨ e = 1) : y.deed ⟨1, e, n, ds⟩ = y.onE e.toNat (fun s => s.givenS ds) := by
  rw [deed_own (by dsimp only; omega) he]
  rfl
theorem deed_r2 (y : Sys) (e n : Int) (ds : List Int) (he : e = 0 ∨ e = 1) : y.deed ⟨2, e, n, ds⟩ = y.onE e.toNat (fun s => s.takenS n) := by
  rw [deed_own (by dsimp only; omega) he]
  rfl
theorem deed_r3 (y : Sys) (e n : Int) (ds : List Int) (he : e = 0 ∨ e = 1) : y.deed ⟨3, e, n, ds⟩ = y.onE e.toNat Sm.closedS := by
  rw [deed_own (by dsimp only; omega) he]
  rfl
theorem deed_rw (y : Sys) (k e : Int) (i : Nat) (ds : List Int) (hk : 4 ≤ k ∧ k ≤ 6) (p : Nat × Sg) (hp : y.way[i]? = some p) : y.deed ⟨k, e, i, ds⟩ = y.wayD k i p := by
  unfold Sys.deed
  rw [if_neg (by dsimp only; omega), if_pos hk, if_pos (by dsimp only; omega)]
  dsimp only
  rw [Int.toNat_natCast, hp]
theorem r_came2 {w : World} {B : Nat} {l : Ray} {y : Sys} {m e : Nat} (h : Rn w B l y) (hok : y.Ok m) (hm : m ≤ 1000) (he : e < 2) (hB : B ≤ w.heap.size) (p : Sg) (hp : p.Fine) (A : Option Addr) (c : Nat) (hd : RB w w.heap.size A p.dat.length p.dat) (hz : ∀ k, (Value.slice A p.dat.length c).ownBlock = some k → l.z k) (hnc : p.dat.length ≤ c) (hcm : c ≤ 9223372036854775807) :
    Calls Try.prog 53 #[.pointer (some ⟨l.q e, 0, none⟩), .agg #[.int .u32 p.seq, .int .u32 p.ack, .int .i64 p.flags, .int .i64 p.window, .slice A p.dat.length c]] w (fun e9 w' => ∃ v, e9 = .returned v ∧ ∃ l', Alike l l' ∧ Rn w' B l' (y.onE e fun s => s.cameS p) ∧ Fr (fun k => B ≤ k) w w' ∧ ∀ g cs t, Blk w g cs t → ¬ Ob2F (l.q e) (l.vo e) (l.vi e) g → Blk w' g cs t) := by
  have ok := hok.at_ e
  have hf := hp.flags
  have hw := hp.window
  refine (rcameF (h.st e he) hB p hp.seq hp.ack (by omega) (by omega) A p.dat.length c ⟨hd, fun b o e1 h0 hk => ?_⟩ hnc hcm ok hm).mono ?_
  · exact h.dis.other (i := 5) (j := 2 + e) rfl (Rn.partE l he) (by omega) b hk (hz b (by rw [e1]; rfl))
  · rintro e9 w' ⟨rfl, hg⟩
    rw [fine_check hp, if_pos rfl] at hg
    obtain ⟨v1, v2, h1, h2⟩ := h.endGo he (f := fun s => s.cameS p) hg
    exact ⟨_, rfl, { l with vo := upd l.vo e v1, vi := upd l.vi e v2 }, ⟨rfl, rfl, rfl⟩, h1, h2.mono (fun k _ hk => (Ob2.lt (h.st e he) k hk).1), fun g cs t hb hn => hb.fr h2 hn⟩
theorem reads_same {w : World} {B B' size n : Nat} {A : Option Addr} {xs ys : List Value} (h : Reads w B size A n xs) (h' : Reads w B' size A n ys) : xs = ys := by
  rcases Nat.eq_zero_or_pos n with h0 | h0
  · subst h0
    have h1 := h.1
    have h2 := h'.1
    rw [Nat.zero_mul] at h1 h2
    rw [List.eq_nil_of_length_eq_zero h1, List.eq_nil_of_length_eq_zero h2]
  · obtain ⟨b, o, e, _, hc⟩ := h.2 h0
    obtain ⟨b', o', e', _, hc'⟩ := h'.2 h0
    subst e
    injection e' with e'
    injection e' with e1 e2
    subst e1; subst e2
    refine List.ext_getElem (h.1.trans h'.1.symm) (fun j h1 h2 => ?_)
    have e9 := (hc j _ (List.getElem?_eq_getElem h1)).symm.trans (hc' j _ (List.getElem?_eq_getElem h2))
    injection e9
/-- What is on its way, from a place on. -/
theorem Rn.cut {w : World} {B N c : Nat} {l : Ray} {y : Sys} {A : Option Addr} (h : Rn w B l y) (hn : y.way.length = N) (hev : l.v = .slice A N c) (k : Nat) (hk : k ≤ N) :
    ∃ A2, (∀ W, (Instr.slice 165 (.slice A N c) (some (.int .i64 (k : Int))) none none).run Try.prog W = .ok (.slice A2 (N - k) (c - k)) W) ∧ ∀ xs, Reads w w.heap.size 6 A N xs → ∀ W, Below w.heap.size w W → Reads W W.heap.size 6 A2 (N - k) (xs.drop (k * 6)) := by
  obtain ⟨A', c', e, h1, h2⟩ := h.way.shape
  rw [hn] at e h1
  obtain ⟨rs, e2, hr, _⟩ := h.way
  have hl : rs.length = N := by rw [← hn, ← e2, List.length_map]
  rw [hl, hev] at hr
  rw [hev] at e
  injection e with e3 e4 e5
  subst e5
  obtain ⟨A2, hrun, hr2⟩ := row_cut_runS Try.prog Try.underlying165 elem165 sizeOf167 hr k hk h1
  refine ⟨A2, hrun, fun xs hx W hb => ?_⟩
  have e9 : xs = rs.flatMap Rl.cl := reads_same hx hr.reads
  subst e9
  exact ((hr2.grow hb).reads)
def toldT (a0 : Option Addr) (n0 c0 : Nat) (b0 : Option Addr) (m0 d0 : Nat) (f0 : Bool) (s0 : Int) (a1 : Option Addr) (n1 c1 : Nat) (b1 : Option Addr) (m1 d1 : Nat) (f1 : Bool) (s1 : Int) : Array Value := #[.slice a0 n0 c0, .slice b0 m0 d0, .bool f0, .int .i64 s0, .slice a1 n1 c1, .slice b1 m1 d1, .bool f1, .int .i64 s1]
theorem own_len {A : Option Addr} {n c n' k : Nat} (h : (Value.slice A n c).ownBlock = some k) : (Value.slice A n' c).ownBlock = some k := by
  cases A <;> exact h
theorem lined_start (w : World) (a b : Int) {W3 : World} (hW3 : W3 = (((((w.alloc (.cells toldC 101)).alloc (.cells (rcells (Sm.start 2 a) (.slice none 0 0) (.slice none 0 0)) 66)).alloc (.cells (rcells (Sm.start 1 b) (.slice none 0 0) (.slice none 0 0)) 66)).alloc (.cells (ray0 0 0 (w.heap.size + 1) (w.heap.size + 1 + 1)).ecells 164)).alloc (.cells #[.slice none 0 0] 165))) :
    Below w.heap.size w W3 ∧ W3.heap.size = w.heap.size + 1 + 1 + 1 + 1 + 1 ∧ Blk W3 w.heap.size toldC 101 ∧ Rn W3 (w.heap.size + 1) (ray0 (w.heap.size + 1 + 1 + 1) (w.heap.size + 1 + 1 + 1 + 1) (w.heap.size + 1) (w.heap.size + 1 + 1)) (Sys.start a b) := by
  obtain ⟨Wa, ha⟩ : ∃ Wa, Wa = w.alloc (.cells toldC 101) := ⟨_, rfl⟩
  obtain ⟨Wb, hb⟩ : ∃ Wb, Wb = Wa.alloc (.cells (rcells (Sm.start 2 a) (.slice none 0 0) (.slice none 0 0)) 66) := ⟨_, rfl⟩
  obtain ⟨Wc, hc⟩ : ∃ Wc, Wc = Wb.alloc (.cells (rcells (Sm.start 1 b) (.slice none 0 0) (.slice none 0 0)) 66) := ⟨_, rfl⟩
  obtain ⟨Wd, hd⟩ : ∃ Wd, Wd = Wc.alloc (.cells (ray0 0 0 (w.heap.size + 1) (w.heap.size + 1 + 1)).ecells 164) := ⟨_, rfl⟩
  rw [← ha, ← hb, ← hc, ← hd] at hW3
  have sa : Wa.heap.size = w.heap.size + 1 := by rw [ha]; simp
  have sb : Wb.heap.size = w.heap.size + 1 + 1 := by rw [hb, World.size_alloc, sa]
  have sc : Wc.heap.size = w.heap.size + 1 + 1 + 1 := by rw [hc, World.size_alloc, sb]
  have sd : Wd.heap.size = w.heap.size + 1 + 1 + 1 + 1 := by rw [hd, World.size_alloc, sc]
  have se : W3.heap.size = w.heap.size + 1 + 1 + 1 + 1 + 1 := by rw [hW3, World.size_alloc, sd]
  have b1 : Below w.heap.size w Wa := by rw [ha]; exact (Below.refl _ _).alloc (Nat.le_refl _) _
  have b2 : Below Wa.heap.size Wa Wb := by rw [hb]; exact (Below.refl _ _).alloc (Nat.le_refl _) _
  have b3 : Below Wb.heap.size Wb Wc := by rw [hc]; exact (Below.refl _ _).alloc (Nat.le_refl _) _
  have b4 : Below Wc.heap.size Wc Wd := by rw [hd]; exact (Below.refl _ _).alloc (Nat.le_refl _) _
  have b5 : Below Wd.heap.size Wd W3 := by rw [hW3]; exact (Below.refl _ _).alloc (Nat.le_refl _) _
  have e0 : RSt Wb (w.heap.size + 1) (w.heap.size + 1) (Sm.start 2 a) (.slice none 0 0) (.slice none 0 0) := by
    have := ob0 Wa (w.heap.size + 1) 66 (rcells (Sm.start 2 a)) (by omega)
    rw [← hb, sa] at this
    exact this
  have e1 : RSt Wc (w.heap.size + 1) (w.heap.size + 1 + 1) (Sm.start 1 b) (.slice none 0 0) (.slice none 0 0) := by
    have := ob0 Wb (w.heap.size + 1) 66 (rcells (Sm.start 1 b)) (by omega)
    rw [← hc, sb] at this
    exact this
  have t0 : Blk Wa w.heap.size toldC 101 := by rw [ha]; exact Blk.new _ _ _
  have t4 : Blk Wd (w.heap.size + 1 + 1 + 1) (ray0 0 0 (w.heap.size + 1) (w.heap.size + 1 + 1)).ecells 164 := by rw [hd, ← sc]; exact Blk.new _ _ _
  have t5 : Blk W3 (w.heap.size + 1 + 1 + 1 + 1) #[.slice none 0 0] 165 := by rw [hW3, ← sd]; exact Blk.new _ _ _
  refine ⟨(((b1.trans (b2.mono (by omega))).trans (b3.mono (by omega))).trans (b4.mono (by omega))).trans (b5.mono (by omega)), se, (((t0.fr (Fr.of_grow b2) id).fr (Fr.of_grow b3) id).fr (Fr.of_grow b4) id).fr (Fr.of_grow b5) id, ?_⟩
  exact Rn.start (by omega) (by omega) (by omega) (by omega) (t4.fr (Fr.of_grow b5) id) t5 (Ob2.grow (Ob2.grow (Ob2.grow e0 b3) b4) b5) (Ob2.grow (Ob2.grow e1 b4) b5)
set_option maxHeartbeats 30000000 in
set_option maxRecDepth 100000 in
theorem lined_ok (a b : Int) (ha : 0 ≤ a ∧ a < 4294967296) (hb : 0 ≤ b ∧ b < 4294967296) (A : Option Addr) (n c : Nat) (ps : List De) (w : World) (h : RDe w w.heap.size A n ps) (hn : n ≤ 200) (hnc : n ≤ c) :
    Calls Try.prog 81 #[.int .u32 a, .int .u32 b, .slice A n c] w (RunP w (Sys.runK a b (ps.map De.dd) n)) := by
  obtain ⟨i0, hinf, hz0, hz1, hz2⟩ := info_parts prlinfo
  have hmf : ∀ fn first cap w, (Instr.makeFunc fn first cap).run Try.prog w = .ok (.func fn first cap) w := fun _ _ _ _ => rfl
  have t1 : decide ((200 : Int) < (n : Int)) = false := by simp; omega
  have HD := Lib.hid h
  have HA := Lib.hid ha
  have HB := Lib.hid hb
  have HLEN : Hid ((ps.map De.dd).length = n) := Lib.hid (by rw [List.length_map]; exact h.1.2)
  have HBY : Hid (∀ d ∈ ps.map De.dd, Byt d.ds) := Lib.hid (fun d hd => by
    obtain ⟨r, hr, rfl⟩ := List.mem_map.1 hd
    exact (h.2 r hr).ds.2)
  clear h ha hb
  go_enter Try.func81, Try.ntmps81
  go_wp2_with fail
  obtain ⟨W3, hW3⟩ : ∃ W3, W3 = (((((w.alloc (.cells toldC 101)).alloc (.cells (rcells (Sm.start 2 a) (.slice none 0 0) (.slice none 0 0)) 66)).alloc (.cells (rcells (Sm.start 1 b) (.slice none 0 0) (.slice none 0 0)) 66)).alloc (.cells (ray0 0 0 (w.heap.size + 1) (w.heap.size + 1 + 1)).ecells 164)).alloc (.cells #[.slice none 0 0] 165)) := ⟨_, rfl⟩
  obtain ⟨hb3, hs3, hT3, hR3⟩ := lined_start w a b hW3
  have hW3' := hW3
  dsimp [toldC, Ray.ecells, ray0, rcells, Sm.start] at hW3'
  rw [← hW3']
  have HB3 := Lib.hid hb3
  have HS3 := Lib.hid hs3
  have HT3 := Lib.hid hT3
  have HR3 := Lib.hid hR3
  have HSD := Lib.hid (rsend_any hR3 (Sys.start_ok HA.out HB.out) (by omega) (by omega))
  clear hW3 hW3' hb3 hs3 hT3 hR3 hmf
  refine HSD.out.mono ?_
  rintro e w6 ⟨rfl, hq6⟩
  have HQ6 : Hid (RnQ W3 (w.heap.size + 1) (ray0 (w.heap.size + 1 + 1 + 1) (w.heap.size + 1 + 1 + 1 + 1) (w.heap.size + 1) (w.heap.size + 1 + 1)) (Sys.runK a b (ps.map De.dd) 0) w6) := Lib.hid hq6
  clear hq6 HSD HR3
  go_wp2_with fail
  go_loopw [35] (fun v wr => ∃ k : Nat, k ≤ n ∧ v = .int .i64 k ∧ Hid (RnQ W3 (w.heap.size + 1) (ray0 (w.heap.size + 1 + 1 + 1) (w.heap.size + 1 + 1 + 1 + 1) (w.heap.size + 1) (w.heap.size + 1 + 1)) (Sys.runK a b (ps.map De.dd) k) wr)) (fun v _ => n - (intOf v).toNat)
  case atStart => exact ⟨0, by omega, rfl, HQ6⟩
  case round =>
    obtain ⟨k, hk, rfl, HQ⟩ := hrel
    clear HQ6
    by_cases hlt : k < n
    · have HQ2 := HQ.out
      obtain ⟨l1, hal, hm1, hf1⟩ := HQ2
      have hbw : Below w.heap.size w wr := HB3.out.trans (hf1.below (by have := HS3.out; omega) (fun k hk => by omega))
      have hbz : w.heap.size + 1 + 1 + 1 + 1 + 1 ≤ wr.heap.size := by have := hf1.size; have := HS3.out; omega
      obtain ⟨b4, o4, rfl, hb4, k0, k1, k2, k3, hfd, hpl⟩ := (HD.out.below' hbw (Nat.le_refl _)).at_ hlt
      have hb4 : b4 < wr.heap.size := by omega
      have hk5 : (k : Int) < n := by omega
      have hkl : k < (ps.map De.dd).length := by rw [HLEN.out]; exact hlt
      have hel : (ps.map De.dd)[k] = (ps.getD k .zero).dd := by
        rw [List.getElem_map]
        simp [List.getD, List.getElem?_eq_getElem (show k < ps.length by omega)]
      have HNX : Hid (Sys.runK a b (ps.map De.dd) (k + 1) = ((Sys.runK a b (ps.map De.dd) k).deed (ps.getD k .zero).dd).send) := Lib.hid (by rw [Sys.runK_succ hkl, hel])
      have HOK := Lib.hid (Sys.runK_ok HA.out HB.out HBY.out k (by omega))
      have HDB : Hid (Byt (ps.getD k .zero).ds) := Lib.hid hfd.ds.2
      have HFD := Lib.hid hfd
      have HM1 := Lib.hid hm1
      have HF1 := Lib.hid hf1
      have HBZ := Lib.hid hbz
      clear hel hfd hm1 hf1 hbw hpl hkl hbz
      generalize ps.getD k .zero = d at *
      generalize Sys.runK a b (ps.map De.dd) k = y at *
      obtain ⟨kd, ee, nn, dA, dm, dc, ds⟩ := d
      dsimp only [De.dd] at k0 k1 k2 k3 HNX HDB
      have HDD : Hid ((y.deed ⟨kd, ee, nn, ds⟩).Ok (2 * k + 1 + 1)) := Lib.hid (HOK.out.deed HDB.out)
      have HRB : Hid (RB wr (w.heap.size + 1) dA dm ds ∧ dm ≤ dc ∧ dc ≤ 9223372036854775807) := Lib.hid ⟨HFD.out.ds.more (by omega), HFD.out.mc⟩
      obtain ⟨Wd, hWd⟩ : ∃ Wd, Wd = wr.alloc (.cells #[.int .i64 kd, .int .i64 ee, .int .i64 nn, .slice dA dm dc] 162) := ⟨_, rfl⟩
      have hbd : Below wr.heap.size wr Wd := by rw [hWd]; exact (Below.refl _ _).alloc (Nat.le_refl _) _
      have hdk : Blk Wd wr.heap.size #[.int .i64 kd, .int .i64 ee, .int .i64 nn, .slice dA dm dc] 162 := by rw [hWd]; exact Blk.new _ _ _
      have HDK := Lib.hid hdk
      have HLD : Hid (Rn Wd (w.heap.size + 1) l1 y) := Lib.hid (Rn.grow HM1.out hbd)
      have HFD2 : Hid (Fr (fun k => w.heap.size + 1 ≤ k) W3 Wd) := Lib.hid (fr_trans HF1.out (fr_below hbd))
      have HRD : Hid (RB Wd (w.heap.size + 1) dA dm ds) := Lib.hid (HRB.out.1.below' hbd (by have := HBZ.out; omega))
      have HBD : Hid (w.heap.size + 1 ≤ Wd.heap.size) := Lib.hid (by have := hbd.size; have := HBZ.out; omega)
      have HQD : Hid (RnQ W3 (w.heap.size + 1) (ray0 (w.heap.size + 1 + 1 + 1) (w.heap.size + 1 + 1 + 1 + 1) (w.heap.size + 1) (w.heap.size + 1 + 1)) y Wd) := Lib.hid (HQ.out.grow hbd)
      have HEL : Hid (∀ e, e < 2 → ¬ Ob2F (l1.q e) (l1.vo e) (l1.vi e) wr.heap.size) := Lib.hid (fun e he => HM1.out.ends_lt (Nat.le_refl _) he)
      have HDP : Hid (∀ (i : Nat) (p : Nat → Prop), l1.parts[i]? = some p → ¬ p wr.heap.size) := Lib.hid (fun i p hp hk => by have := HM1.out.bel i p hp _ hk; omega)
      go_upto_region 10 with fail
      rw [← hWd]
      have d0 := hdk.cell 0
      have d1 := hdk.cell 1
      have d2 := hdk.cell 2
      have d3 := hdk.cell 3
      have dl := hdk.lt
      dsimp at d0 d1 d2 d3
      have g0 := HLD.out.eblk.cell 0
      have g1 := HLD.out.eblk.cell 1
      have gel := HLD.out.eblk.lt
      have gw := HLD.out.wblk.cell 0
      have gwl := HLD.out.wblk.lt
      dsimp only [Ray.ecells] at g0 g1
      simp only [List.getElem?_toArray, List.getElem?_cons_succ, List.getElem?_cons_zero] at g0 g1 gw
      obtain ⟨A7, c7, e7, h77, -⟩ := HLD.out.way.shape
      rw [e7] at gw
      have heb' : l1.eb = (w.heap.size + 1 + 1 + 1) := hal.1
      have hwb' : l1.wb = (w.heap.size + 1 + 1 + 1 + 1) := hal.2.1
      have hq0' : l1.q 0 = w.heap.size + 1 := by rw [hal.2.2]; rfl
      have hq1' : l1.q 1 = w.heap.size + 1 + 1 := by rw [hal.2.2]; rfl
      rw [heb'] at g0 g1 gel
      rw [hwb'] at gw gwl
      rw [hq0'] at g0
      rw [hq1'] at g1
      have HAL := Lib.hid hal
      have HEB := Lib.hid heb'
      have HWB := Lib.hid hwb'
      have HG0 := Lib.hid hq0'
      have HG1 := Lib.hid hq1'
      have HK := Lib.hid hn
      have HV := Lib.hid e7
      clear hWd hbd hdk k0 k1 k2 k3 hb4 hal heb' hwb' hq0' hq1' e7 HFD
      generalize hN : y.way.length = N at *
      have HN := Lib.hid hN
      have HNC := Lib.hid h77
      clear hN h77
      obtain ⟨mn, hmn⟩ : ∃ mn : Bool, decide (ee = 0 ∨ ee = 1) = mn := ⟨_, rfl⟩
      obtain ⟨th, hth⟩ : ∃ th : Bool, decide (0 ≤ nn ∧ nn < (N : Int)) = th := ⟨_, rfl⟩
      have HMN := Lib.hid hmn
      have HTH := Lib.hid hth
      clear hmn hth
      go_cut [13] (fun v13 wx => v13 = .bool mn ∧ wx = Wd)
      case first =>
        rcases (by omega : ee = 0 ∨ ee = 1 ∨ (ee ≠ 0 ∧ ee ≠ 1)) with hx | hx | hx
        · have b3 : (ee == 0) = true := by simpa using hx
          have hm : mn = true := by rw [← HMN.out]; simp [hx]
          clear hx
          go_wp2
          go_meet
          exact ⟨by rw [hm], rfl⟩
        · have b3 : (ee == 0) = false := by simp; omega
          have b4 : (ee == 1) = true := by simpa using hx
          have hm : mn = true := by rw [← HMN.out]; simp [hx]
          clear hx
          go_wp2
          go_meet
          exact ⟨by rw [hm], rfl⟩
        · have b3 : (ee == 0) = false := by simp; omega
          have b4 : (ee == 1) = false := by simp; omega
          have hm : mn = false := by rw [← HMN.out]; simp; omega
          clear hx
          go_wp2
          go_meet
          exact ⟨by rw [hm], rfl⟩
      case rest =>
        obtain ⟨rfl, hw⟩ := hcut
        have hw2 := hw.symm
        subst hw2
        go_upto_region 11 with fail
        go_cut [14] (fun v14 wx => v14 = .bool th ∧ wx = Wd)
        case first =>
          by_cases hx : 0 ≤ nn
          · by_cases hy : nn < (N : Int)
            · have b7 : decide ((0 : Int) ≤ nn) = true := by simpa using hx
              have b8 : decide (nn < (N : Int)) = true := by simpa using hy
              have hm : th = true := by rw [← HTH.out]; simp [hx, hy]
              clear hx hy
              go_wp2
              go_meet
              exact ⟨by rw [hm], rfl⟩
            · have b7 : decide ((0 : Int) ≤ nn) = true := by simpa using hx
              have b8 : decide (nn < (N : Int)) = false := by simpa using hy
              have hm : th = false := by rw [← HTH.out]; simp [hy]
              clear hx hy
              go_wp2
              go_meet
              exact ⟨by rw [hm], rfl⟩
          · have b7 : decide ((0 : Int) ≤ nn) = false := by simpa using hx
            have hm : th = false := by rw [← HTH.out]; simp [hx]
            clear hx
            go_wp2
            go_meet
            exact ⟨by rw [hm], rfl⟩
        case rest =>
          obtain ⟨rfl, hw⟩ := hcut
          have hw2 := hw.symm
          subst hw2
          go_upto_block 2 with fail
          go_cut [] (fun wx => Hid (RnQ W3 (w.heap.size + 1) (ray0 (w.heap.size + 1 + 1 + 1) (w.heap.size + 1 + 1 + 1 + 1) (w.heap.size + 1) (w.heap.size + 1 + 1)) (y.deed ⟨kd, ee, nn, ds⟩) wx))
          case first =>
            clear hw
            have HLR : Hid (Rn Wd.drew (w.heap.size + 1) l1 y) := Lib.hid (Rn.grow HLD.out ((Below.refl _ Wd).drew))
            have HFR : Hid (Fr (fun k => w.heap.size + 1 ≤ k) W3 Wd.drew) := Lib.hid (fr_trans HFD2.out (fr_below ((Below.refl _ Wd).drew)))
            rcases (by omega : kd = 1 ∨ kd = 2 ∨ kd = 3 ∨ kd = 4 ∨ kd = 5 ∨ kd = 6 ∨ kd = 7 ∨ (kd < 1 ∨ 7 < kd)) with rfl | rfl | rfl | rfl | rfl | rfl | rfl | hx
            · as_aux_lemma =>
                cases mn with
                | true =>
                  have hx := of_decide_eq_true HMN.out
                  rcases hx with rfl | rfl
                  · have HEQ := Lib.hid (deed_r1 y 0 nn ds (by omega))
                    have HC := Lib.hid (r_given HLR.out HOK.out (by have := HK.out; omega) (e := 0) (by omega) HBD.out dA dm dc ds HRD.out HRB.out.2.1 HRB.out.2.2)
                    rw [HG0.out] at HC
                    go_wp2_with fail
                    go_region_law (refine step_call_gow rfl 42 #[.tmp 65, .tmp 67] #[64, 23] rfl #[.pointer (some ⟨w.heap.size + 1, 0, none⟩), .slice dA dm dc] (by simp [Act.eval, Act.put]) (run42r _ _) _ HC.out ?_; rintro v8 w8 hq8; have HQ8 := Lib.hid (hq8.trans HAL.out HFR.out); clear hq8)
                    all_goals
                      have HP : Hid (RnQ W3 (w.heap.size + 1) (ray0 (w.heap.size + 1 + 1 + 1) (w.heap.size + 1 + 1 + 1 + 1) (w.heap.size + 1) (w.heap.size + 1 + 1)) (y.deed ⟨1, 0, nn, ds⟩) w8) := Lib.hid (by rw [HEQ.out]; exact HQ8.out)
                      go_wp2
                      go_meet
                      exact HP
                  · have HEQ := Lib.hid (deed_r1 y 1 nn ds (by omega))
                    have HC := Lib.hid (r_given HLR.out HOK.out (by have := HK.out; omega) (e := 1) (by omega) HBD.out dA dm dc ds HRD.out HRB.out.2.1 HRB.out.2.2)
                    rw [HG1.out] at HC
                    go_wp2_with fail
                    go_region_law (refine step_call_gow rfl 42 #[.tmp 65, .tmp 67] #[64, 23] rfl #[.pointer (some ⟨w.heap.size + 1 + 1, 0, none⟩), .slice dA dm dc] (by simp [Act.eval, Act.put]) (run42r _ _) _ HC.out ?_; rintro v8 w8 hq8; have HQ8 := Lib.hid (hq8.trans HAL.out HFR.out); clear hq8)
                    all_goals
                      have HP : Hid (RnQ W3 (w.heap.size + 1) (ray0 (w.heap.size + 1 + 1 + 1) (w.heap.size + 1 + 1 + 1 + 1) (w.heap.size + 1) (w.heap.size + 1 + 1)) (y.deed ⟨1, 1, nn, ds⟩) w8) := Lib.hid (by rw [HEQ.out]; exact HQ8.out)
                      go_wp2
                      go_meet
                      exact HP
                | false =>
                  have hx := of_decide_eq_false HMN.out
                  have HP : Hid (RnQ W3 (w.heap.size + 1) (ray0 (w.heap.size + 1 + 1 + 1) (w.heap.size + 1 + 1 + 1 + 1) (w.heap.size + 1) (w.heap.size + 1 + 1)) (y.deed ⟨1, ee, nn, ds⟩) Wd) := Lib.hid (by rw [deed_else (by dsimp only; omega) (by dsimp only; rw [HN.out]; omega) (by dsimp only; omega)]; exact HQD.out)
                  clear hx
                  go_wp2
                  go_meet
                  exact HP
            · as_aux_lemma =>
                cases mn with
                | true =>
                  have hx := of_decide_eq_true HMN.out
                  rcases hx with rfl | rfl
                  · have HEQ := Lib.hid (deed_r2 y 0 nn ds (by omega))
                    have HC := Lib.hid (r_taken HLR.out HOK.out (by have := HK.out; omega) (e := 0) (by omega) HBD.out nn)
                    rw [HG0.out] at HC
                    go_wp2_with fail
                    go_region_law (refine step_call_gow rfl 44 #[.tmp 75, .tmp 77] #[64, 3] rfl #[.pointer (some ⟨w.heap.size + 1, 0, none⟩), .int .i64 nn] (by simp [Act.eval, Act.put]) (run44r _ _) _ HC.out ?_; rintro v8 w8 hq8; have HQ8 := Lib.hid (hq8.trans HAL.out HFR.out); clear hq8)
                    all_goals
                      have HP : Hid (RnQ W3 (w.heap.size + 1) (ray0 (w.heap.size + 1 + 1 + 1) (w.heap.size + 1 + 1 + 1 + 1) (w.heap.size + 1) (w.heap.size + 1 + 1)) (y.deed ⟨2, 0, nn, ds⟩) w8) := Lib.hid (by rw [HEQ.out]; exact HQ8.out)
                      go_wp2
                      go_meet
                      exact HP
                  · have HEQ := Lib.hid (deed_r2 y 1 nn ds (by omega))
                    have HC := Lib.hid (r_taken HLR.out HOK.out (by have := HK.out; omega) (e := 1) (by omega) HBD.out nn)
                    rw [HG1.out] at HC
                    go_wp2_with fail
                    go_region_law (refine step_call_gow rfl 44 #[.tmp 75, .tmp 77] #[64, 3] rfl #[.pointer (some ⟨w.heap.size + 1 + 1, 0, none⟩), .int .i64 nn] (by simp [Act.eval, Act.put]) (run44r _ _) _ HC.out ?_; rintro v8 w8 hq8; have HQ8 := Lib.hid (hq8.trans HAL.out HFR.out); clear hq8)
                    all_goals
                      have HP : Hid (RnQ W3 (w.heap.size + 1) (ray0 (w.heap.size + 1 + 1 + 1) (w.heap.size + 1 + 1 + 1 + 1) (w.heap.size + 1) (w.heap.size + 1 + 1)) (y.deed ⟨2, 1, nn, ds⟩) w8) := Lib.hid (by rw [HEQ.out]; exact HQ8.out)
                      go_wp2
                      go_meet
                      exact HP
                | false =>
                  have hx := of_decide_eq_false HMN.out
                  have HP : Hid (RnQ W3 (w.heap.size + 1) (ray0 (w.heap.size + 1 + 1 + 1) (w.heap.size + 1 + 1 + 1 + 1) (w.heap.size + 1) (w.heap.size + 1 + 1)) (y.deed ⟨2, ee, nn, ds⟩) Wd) := Lib.hid (by rw [deed_else (by dsimp only; omega) (by dsimp only; rw [HN.out]; omega) (by dsimp only; omega)]; exact HQD.out)
                  clear hx
                  go_wp2
                  go_meet
                  exact HP
            · as_aux_lemma =>
                cases mn with
                | true =>
                  have hx := of_decide_eq_true HMN.out
                  rcases hx with rfl | rfl
                  · have HEQ := Lib.hid (deed_r3 y 0 nn ds (by omega))
                    have HC := Lib.hid (r_closed HLD.out (e := 0) (by omega))
                    rw [HG0.out] at HC
                    go_wp2_with fail
                    refine HC.out.mono ?_
                    rintro e8 w8 ⟨v8, rfl, hq8⟩
                    have HP : Hid (RnQ W3 (w.heap.size + 1) (ray0 (w.heap.size + 1 + 1 + 1) (w.heap.size + 1 + 1 + 1 + 1) (w.heap.size + 1) (w.heap.size + 1 + 1)) (y.deed ⟨3, 0, nn, ds⟩) w8) := Lib.hid (by rw [HEQ.out]; exact hq8.trans HAL.out HFD2.out)
                    clear hq8
                    go_wp2
                    go_meet
                    exact HP
                  · have HEQ := Lib.hid (deed_r3 y 1 nn ds (by omega))
                    have HC := Lib.hid (r_closed HLD.out (e := 1) (by omega))
                    rw [HG1.out] at HC
                    go_wp2_with fail
                    refine HC.out.mono ?_
                    rintro e8 w8 ⟨v8, rfl, hq8⟩
                    have HP : Hid (RnQ W3 (w.heap.size + 1) (ray0 (w.heap.size + 1 + 1 + 1) (w.heap.size + 1 + 1 + 1 + 1) (w.heap.size + 1) (w.heap.size + 1 + 1)) (y.deed ⟨3, 1, nn, ds⟩) w8) := Lib.hid (by rw [HEQ.out]; exact hq8.trans HAL.out HFD2.out)
                    clear hq8
                    go_wp2
                    go_meet
                    exact HP
                | false =>
                  have hx := of_decide_eq_false HMN.out
                  have HP : Hid (RnQ W3 (w.heap.size + 1) (ray0 (w.heap.size + 1 + 1 + 1) (w.heap.size + 1 + 1 + 1 + 1) (w.heap.size + 1) (w.heap.size + 1 + 1)) (y.deed ⟨3, ee, nn, ds⟩) Wd) := Lib.hid (by rw [deed_else (by dsimp only; omega) (by dsimp only; rw [HN.out]; omega) (by dsimp only; omega)]; exact HQD.out)
                  clear hx
                  go_wp2
                  go_meet
                  exact HP
            · as_aux_lemma =>
                cases th with
                | false =>
                  have hx := of_decide_eq_false HTH.out
                  have HP : Hid (RnQ W3 (w.heap.size + 1) (ray0 (w.heap.size + 1 + 1 + 1) (w.heap.size + 1 + 1 + 1 + 1) (w.heap.size + 1) (w.heap.size + 1 + 1)) (y.deed ⟨4, ee, nn, ds⟩) Wd) := Lib.hid (by rw [deed_else (by dsimp only; omega) (by dsimp only; rw [HN.out]; omega) (by dsimp only; omega)]; exact HQD.out)
                  clear hx
                  go_wp2
                  go_meet
                  exact HP
                | true =>
                  have hx := of_decide_eq_true HTH.out
                  obtain ⟨i, rfl⟩ : ∃ i : Nat, nn = i := ⟨nn.toNat, by omega⟩
                  obtain ⟨p, hp⟩ : ∃ p, y.way[i]? = some p := ⟨_, List.getElem?_eq_getElem (show i < y.way.length by rw [HN.out]; omega)⟩
                  have HWD := Lib.hid (deed_rw y 4 ee i ds (by omega) p hp)
                  have hiI : (i : Int) < N := hx.2
                  have hi0 : (0 : Int) ≤ (i : Int) := hx.1
                  have HW64 : Hid (N ≤ 64) := Lib.hid (by rw [← HN.out]; exact HOK.out.len)
                  obtain ⟨r, b, o, c8, ev, hc1, hc2, hrt, hrs, hrf, hbl, hlt2, kb0, kb1, kb2, kb3, kb4, kb5⟩ := HLD.out.letter hp
                  have HPW := Lib.hid (HOK.out.way p (List.mem_of_getElem? hp))
                  rw [HN.out, HV.out] at ev
                  injection ev with ev1 ev2 ev3
                  subst ev1; subst ev3
                  have HRF := Lib.hid hrf
                  have HRT := Lib.hid hrt
                  have HRS := Lib.hid hrs
                  have HWLOW : Hid (w.heap.size + 1 ≤ (w.heap.size + 1 + 1 + 1 + 1)) := Lib.hid (by omega)
                  clear hx hrf hrt hrs hc1 hc2 ev2 hlt2 hp
                  have h1 := HPW.out.1
                  rcases (by omega : p.1 = 0 ∨ p.1 = 1) with hpe | hpe
                  · have HPE := Lib.hid hpe
                    have kb9 : Wd.cell? ⟨b, o + i * 6, none⟩ = some (.int .i64 0) := by
                      have e9 := HRT.out.trans hpe
                      rw [e9] at kb0
                      exact kb0
                    clear hpe h1 kb0
                    have kb0 := kb9
                    clear kb9
                    obtain ⟨Wx, hWx⟩ : ∃ Wx, Wx = Wd.alloc (.cells #[.int .i64 0, .int .u32 r.sg.seq, .int .u32 r.sg.ack, .int .i64 r.sg.flags, .int .i64 r.sg.window, .slice r.A r.sg.dat.length r.c] 167) := ⟨_, rfl⟩
                    have hbx : Below Wd.heap.size Wd Wx := by rw [hWx]; exact (Below.refl _ _).alloc (Nat.le_refl _) _
                    have hxb : Blk Wx Wd.heap.size #[.int .i64 0, .int .u32 r.sg.seq, .int .u32 r.sg.ack, .int .i64 r.sg.flags, .int .i64 r.sg.window, .slice r.A r.sg.dat.length r.c] 167 := by rw [hWx]; exact Blk.new _ _ _
                    have HLX : Hid (Rn Wx (w.heap.size + 1) l1 y) := Lib.hid (Rn.grow HLD.out hbx)
                    have HFX : Hid (Fr (fun k => w.heap.size + 1 ≤ k) W3 Wx) := Lib.hid (fr_trans HFD2.out (fr_below hbx))
                    have HRX : Hid (r.Fine Wx l1.z) := Lib.hid (HRF.out.fr (Fr.of_grow hbx) (fun _ _ e => e) (fun _ e => e))
                    have HDX := Lib.hid (HDK.out.fr (Fr.of_grow hbx) id)
                    have HBX : Hid (w.heap.size + 1 ≤ Wx.heap.size) := Lib.hid (Nat.le_trans HBD.out hbx.size)
                    have HEX := Lib.hid (hbx.cell (p := ⟨(w.heap.size + 1 + 1 + 1), 0, none⟩) gel)
                    have gelx := Nat.lt_of_lt_of_le gel hbx.size
                    have HDLT := Lib.hid dl
                    go_upto_region 26 with fail
                    rw [← hWx]
                    have x0 := hxb.cell 0
                    have x1 := hxb.cell 1
                    have x2 := hxb.cell 2
                    have x3 := hxb.cell 3
                    have x4 := hxb.cell 4
                    have x5 := hxb.cell 5
                    have xl := hxb.lt
                    have dx := HDX.out.cell 0
                    have dlx := HDX.out.lt
                    dsimp at x0 x1 x2 x3 x4 x5 dx
                    have gx := HLX.out.eblk.cell 0
                    dsimp only [Ray.ecells] at gx
                    simp only [List.getElem?_toArray, List.getElem?_cons_succ, List.getElem?_cons_zero] at gx
                    rw [HEB.out, HG0.out] at gx
                    have HC := Lib.hid (r_came2 (Rn.grow HLX.out ((Below.refl _ Wx).drew)) HOK.out (by have := HK.out; omega) (e := 0) (by omega) HBX.out r.sg (by rw [HRS.out]; exact HPW.out.2) r.A r.c HRX.out.rb.drew HRX.out.own HRX.out.cap.1 HRX.out.cap.2)
                    rw [HG0.out] at HC
                    have HXB := Lib.hid hxb
                    have HELX : Hid (∀ e, e < 2 → ¬ Ob2F (l1.q e) (l1.vo e) (l1.vi e) Wd.heap.size) := Lib.hid (fun e he => HLD.out.ends_lt (Nat.le_refl _) he)
                    clear hWx hbx hxb kb0 kb1 kb2 kb3 kb4 kb5 hbl gw gwl gel g0 g1 d0 d1 d2 d3 dl
                    have d0 := dx
                    go_wp2_with fail
                    go_region_held3 (fun w' => w'.cell? ⟨Wd.heap.size, 0, none⟩ = some (.int .i64 0) ∧ w'.cell? ⟨(w.heap.size + 1 + 1 + 1), 0, none⟩ = some (.pointer (some ⟨w.heap.size + 1, 0, none⟩)) ∧ w'.cell? ⟨Wd.heap.size, 1, none⟩ = some (.int .u32 r.sg.seq) ∧ w'.cell? ⟨Wd.heap.size, 2, none⟩ = some (.int .u32 r.sg.ack) ∧ w'.cell? ⟨Wd.heap.size, 3, none⟩ = some (.int .i64 r.sg.flags) ∧ w'.cell? ⟨Wd.heap.size, 4, none⟩ = some (.int .i64 r.sg.window) ∧ w'.cell? ⟨Wd.heap.size, 5, none⟩ = some (.slice r.A r.sg.dat.length r.c))
                      (first
                        | go_keep
                        | (refine ⟨?_, ?_, ?_, ?_, ?_, ?_, ?_⟩
                           · assumption
                           · assumption
                           · assumption
                           · assumption
                           · assumption
                           · assumption
                           · assumption))
                      (first
                      | (refine step_call_gow rfl 53 #[.tmp 102, .tmp 104] #[64, 25] rfl #[.pointer (some ⟨w.heap.size + 1, 0, none⟩), .agg #[.int .u32 r.sg.seq, .int .u32 r.sg.ack, .int .i64 r.sg.flags, .int .i64 r.sg.window, .slice r.A r.sg.dat.length r.c]] (by simp [Act.eval, Act.put]) (run53r _ _) _ HC.out ?_
                         rintro v5 W5 ⟨l5, hal5, hm5, hf5, hk5⟩
                         have HL5 := Lib.hid hm5
                         have HF5a := Lib.hid hf5
                         have HK5 := Lib.hid hk5
                         have HAL5a := Lib.hid hal5
                         have hx5 := hk5 _ _ _ HXB.out.drew (by rw [← HG0.out]; exact HELX.out 0 (by omega))
                         have y0 : W5.cell? ⟨Wd.heap.size, 0, none⟩ = some (.int .i64 0) := hx5.cell 0
                         have y1 : W5.cell? ⟨Wd.heap.size, 1, none⟩ = some (.int .u32 r.sg.seq) := hx5.cell 1
                         have y2 : W5.cell? ⟨Wd.heap.size, 2, none⟩ = some (.int .u32 r.sg.ack) := hx5.cell 2
                         have y3 : W5.cell? ⟨Wd.heap.size, 3, none⟩ = some (.int .i64 r.sg.flags) := hx5.cell 3
                         have y4 : W5.cell? ⟨Wd.heap.size, 4, none⟩ = some (.int .i64 r.sg.window) := hx5.cell 4
                         have y5c : W5.cell? ⟨Wd.heap.size, 5, none⟩ = some (.slice r.A r.sg.dat.length r.c) := hx5.cell 5
                         have ye := hm5.eblk.cell 0
                         dsimp only [Ray.ecells] at ye
                         simp only [List.getElem?_toArray, List.getElem?_cons_succ, List.getElem?_cons_zero] at ye
                         rw [show l5.eb = (w.heap.size + 1 + 1 + 1) from hal5.1.trans HEB.out, show l5.q 0 = w.heap.size + 1 by rw [hal5.2.2]; exact HG0.out] at ye
                         clear hm5 hf5 hk5 hal5 hx5))
                    all_goals
                      have HAL5 : Hid (Alike (ray0 (w.heap.size + 1 + 1 + 1) (w.heap.size + 1 + 1 + 1 + 1) (w.heap.size + 1) (w.heap.size + 1 + 1)) l5) := Lib.hid ⟨HAL5a.out.1.trans HAL.out.1, HAL5a.out.2.1.trans HAL.out.2.1, HAL5a.out.2.2.trans HAL.out.2.2⟩
                      have HF5 : Hid (Fr (fun k => w.heap.size + 1 ≤ k) W3 W5) := Lib.hid (fr_trans (fr_trans HFX.out (fr_below ((Below.refl _ Wx).drew))) HF5a.out)
                      have HB5 : Hid (w.heap.size + 1 ≤ W5.heap.size) := Lib.hid (Nat.le_trans HBX.out HF5a.out.size)
                      have hdk5 := HK5.out wr.heap.size _ _ HDX.out.drew (by rw [← HG0.out]; exact HEL.out 0 (by omega))
                      clear d0 x0 x1 x2 x3 x4 x5 xl dx dlx gx gelx y0 y1 y2 y3 y4 y5c ye
                      have d0 := hdk5.cell 0
                      have d2 := hdk5.cell 2
                      have dl := hdk5.lt
                      dsimp at d0 d2
                      have HN5 : Hid ((y.onE 0 (fun s => s.cameS r.sg)).way.length = N) := Lib.hid (by rw [Sys.onE_way]; exact HN.out)
                      have HEQ : Hid (y.deed ⟨4, ee, i, ds⟩ = { y.onE 0 (fun s => s.cameS r.sg) with way := (y.onE 0 (fun s => s.cameS r.sg)).way.eraseIdx i }) := Lib.hid (by
                        rw [HWD.out]
                        unfold Sys.wayD
                        rw [if_neg (by decide), if_pos rfl, HPE.out, HRS.out, Sys.onE_way])
                      clear hdk5
                      generalize y.onE 0 (fun s => s.cameS r.sg) = y5 at *
                      have hiN : i + 1 ≤ N := by have := hiI; omega
                      obtain ⟨A8, c9, xs, hev, hrd, hone, hnext⟩ := Rn.erase HL5.out HB5.out i
                      obtain ⟨A8', c9', hev', hc91, hc92⟩ := HL5.out.way.shape
                      rw [HN5.out] at hev hrd hnext hev' hc91
                      rw [hev'] at hev
                      injection hev with hev1 hev2 hev3
                      subst hev1; subst hev3
                      obtain ⟨b, o, rfl, hbo, -⟩ := hrd.2 (by omega)
                      have gw := HL5.out.wblk.cell 0
                      have gwl := HL5.out.wblk.lt
                      have gwf := HL5.out.wblk.free 0
                      simp only [List.getElem?_toArray, List.getElem?_cons_zero] at gw
                      rw [hev', show l5.wb = (w.heap.size + 1 + 1 + 1 + 1) from HAL5.out.2.1] at gw
                      rw [show l5.wb = (w.heap.size + 1 + 1 + 1 + 1) from HAL5.out.2.1] at gwl gwf
                      have HRD5 := Lib.hid hrd
                      have HONE := Lib.hid hone
                      have HNX := Lib.hid hnext
                      have hW64 : N ≤ 64 := HW64.out
                      have hic : i ≤ c9' := by omega
                      have hiN2 : i ≤ N := by omega
                      have hcm : c9' ≤ 9223372036854775807 := by unfold maxLen at hc92; exact hc92
                      have hwi : IntKind.i64.wrap ((i : Int) + 1) = (i : Int) + 1 := IntWalk.i64_in _ (by omega)
                      obtain ⟨A2, hrun, hrow2⟩ := Rn.cut HL5.out HN5.out hev' (i + 1) hiN
                      have hcut : ∀ W, (Instr.slice 165 (.slice (some ⟨b, o, none⟩) N c9') (some (.int .i64 ((i : Int) + 1))) none none).run Try.prog W = .ok (.slice A2 (N - (i + 1)) (c9' - (i + 1))) W := fun W => by simpa using hrun W
                      have HCUTR := Lib.hid hrow2
                      clear hev' hrd hone hnext hev2 hc91 hc92 hrun hrow2 hbo
                      go_wp2_with fail
                      refine wp_region_walk (fun w' => Below W5.heap.size W5 w') [[], [], [], [(108, 2)], [(107, 1), (109, 3)], [(106, 0), (110, 4)], [], [], [(113, 7)], [(114, 8)], [(112, 6), (115, 9)]]
                        [(106, 0), (107, 1), (108, 2), (109, 3), (110, 4), (111, 5), (112, 6), (113, 7), (114, 8), (115, 9), (116, 10)] (by kernel_rfl) (by kernel_rfl) (by kernel_rfl) ((Below.refl _ W5).drew) ?_
                      refine Flow.st_step (⟨fun v W => ∃ g, v = .slice (some ⟨g, 0, none⟩) 0 0 ∧ Row W W5.heap.size 167 6 (.slice (some ⟨g, 0, none⟩) 0 0) 0 [], fun _ _ _ h hg => by obtain ⟨g, h1, h2⟩ := h; exact ⟨g, h1, h2.grow hg⟩⟩) ?_ ?_
                      · go_light
                        intro w1 hC1
                        simp only [Flow.fill, Flow.after, Flow.at_, List.nil_append, List.cons_append, List.getD_cons_zero, List.getD_cons_succ, det, forall_eq, List.setIfInBounds_toArray, List.set_cons_zero, List.set_cons_succ, List.drop, List.length]
                        have hb1 := hC1
                        have j0 := (hb1.cell (p := ⟨(w.heap.size + 1 + 1 + 1 + 1), 0, none⟩) gwl).trans gw; have j2 := (hb1.cell (p := ⟨wr.heap.size, 2, none⟩) dl).trans d2; have jl1 := Nat.lt_of_lt_of_le gwl hb1.size; have jl2 := Nat.lt_of_lt_of_le dl hb1.size
                        go_wp2
                        exact Flow.post_st (hb1.alloc hb1.size _) (Grow.alloc _ _) rfl rfl ⟨_, rfl, row_lit0 _ _ _ _ hb1.size⟩
                      apply Flow.det_step
                      · go_light
                        intro w1 hC1
                        simp only [Flow.fill, Flow.after, Flow.at_, List.nil_append, List.cons_append, List.getD_cons_zero, List.getD_cons_succ, det, forall_eq, List.setIfInBounds_toArray, List.set_cons_zero, List.set_cons_succ, List.drop, List.length]
                        have hb1 := hC1
                        have j0 := (hb1.cell (p := ⟨(w.heap.size + 1 + 1 + 1 + 1), 0, none⟩) gwl).trans gw; have j2 := (hb1.cell (p := ⟨wr.heap.size, 2, none⟩) dl).trans d2; have jl1 := Nat.lt_of_lt_of_le gwl hb1.size; have jl2 := Nat.lt_of_lt_of_le dl hb1.size
                        go_wp2
                        exact Flow.post_det hb1 (Grow.refl _) rfl rfl
                      apply Flow.det_step
                      · go_light
                        intro w1 hC1
                        simp only [Flow.fill, Flow.after, Flow.at_, List.nil_append, List.cons_append, List.getD_cons_zero, List.getD_cons_succ, det, forall_eq, List.setIfInBounds_toArray, List.set_cons_zero, List.set_cons_succ, List.drop, List.length]
                        have hb1 := hC1
                        have j0 := (hb1.cell (p := ⟨(w.heap.size + 1 + 1 + 1 + 1), 0, none⟩) gwl).trans gw; have j2 := (hb1.cell (p := ⟨wr.heap.size, 2, none⟩) dl).trans d2; have jl1 := Nat.lt_of_lt_of_le gwl hb1.size; have jl2 := Nat.lt_of_lt_of_le dl hb1.size
                        go_wp2
                        exact Flow.post_det hb1 (Grow.refl _) rfl rfl
                      apply Flow.det_step
                      · go_light
                        intro w1 hC1
                        simp only [Flow.fill, Flow.after, Flow.at_, List.nil_append, List.cons_append, List.getD_cons_zero, List.getD_cons_succ, det, forall_eq, List.setIfInBounds_toArray, List.set_cons_zero, List.set_cons_succ, List.drop, List.length]
                        have hb1 := hC1
                        have j0 := (hb1.cell (p := ⟨(w.heap.size + 1 + 1 + 1 + 1), 0, none⟩) gwl).trans gw; have j2 := (hb1.cell (p := ⟨wr.heap.size, 2, none⟩) dl).trans d2; have jl1 := Nat.lt_of_lt_of_le gwl hb1.size; have jl2 := Nat.lt_of_lt_of_le dl hb1.size
                        go_wp2
                        exact Flow.post_det hb1 (Grow.refl _) rfl rfl
                      apply Flow.det_step
                      · go_light
                        intro w1 hC1
                        simp only [Flow.fill, Flow.after, Flow.at_, List.nil_append, List.cons_append, List.getD_cons_zero, List.getD_cons_succ, det, forall_eq, List.setIfInBounds_toArray, List.set_cons_zero, List.set_cons_succ, List.drop, List.length]
                        have hb1 := hC1
                        have j0 := (hb1.cell (p := ⟨(w.heap.size + 1 + 1 + 1 + 1), 0, none⟩) gwl).trans gw; have j2 := (hb1.cell (p := ⟨wr.heap.size, 2, none⟩) dl).trans d2; have jl1 := Nat.lt_of_lt_of_le gwl hb1.size; have jl2 := Nat.lt_of_lt_of_le dl hb1.size
                        go_wp2
                        exact Flow.post_det hb1 (Grow.refl _) rfl rfl
                      refine Flow.st_step (⟨fun v W => ∃ A c, v = .slice A i c ∧ Row W W5.heap.size 167 6 (.slice A i c) i (xs.take (i * 6)), fun _ _ _ h hg => by obtain ⟨A, c, h1, h2⟩ := h; exact ⟨A, c, h1, h2.grow hg⟩⟩) ?_ ?_
                      · go_light
                        intro w1 hC1
                        simp only [Flow.fill, Flow.after, Flow.at_, List.nil_append, List.cons_append, List.getD_cons_zero, List.getD_cons_succ, det, forall_eq, List.setIfInBounds_toArray, List.set_cons_zero, List.set_cons_succ, List.drop, List.length]
                        rintro _ ⟨g0, rfl, hr0⟩
                        have hb1 := hC1
                        have j0 := (hb1.cell (p := ⟨(w.heap.size + 1 + 1 + 1 + 1), 0, none⟩) gwl).trans gw; have j2 := (hb1.cell (p := ⟨wr.heap.size, 2, none⟩) dl).trans d2; have jl1 := Nat.lt_of_lt_of_le gwl hb1.size; have jl2 := Nat.lt_of_lt_of_le dl hb1.size
                        refine wpList_append_litS _ rfl (.tmp 106) (.tmp 110) 165 rfl W5.heap.size 167 i0 (.agg #[.int .i64 0, .int .u32 0, .int .u32 0, .int .i64 0, .int .i64 0, .slice none 0 0]) 6 56 Try.underlying165 hinf hz0 hz1 hz2 rfl (by decide) g0 rfl hr0 W5.heap.size (some ⟨b, o, none⟩) i c9' (xs.take (i * 6)) rfl ((HRD5.out.take (k := i) (by omega)).below' hb1 (Nat.le_refl _)) (by unfold maxLen; omega) (by omega) hb1.size ?_
                        intro A' c' w' hrow hgr
                        exact Flow.post_st (hb1.trans (hgr.mono hb1.size)) hgr rfl rfl ⟨A', c', rfl, hrow⟩
                      apply Flow.det_step
                      · go_light
                        intro w1 hC1
                        simp only [Flow.fill, Flow.after, Flow.at_, List.nil_append, List.cons_append, List.getD_cons_zero, List.getD_cons_succ, det, forall_eq, List.setIfInBounds_toArray, List.set_cons_zero, List.set_cons_succ, List.drop, List.length]
                        have hb1 := hC1
                        have j0 := (hb1.cell (p := ⟨(w.heap.size + 1 + 1 + 1 + 1), 0, none⟩) gwl).trans gw; have j2 := (hb1.cell (p := ⟨wr.heap.size, 2, none⟩) dl).trans d2; have jl1 := Nat.lt_of_lt_of_le gwl hb1.size; have jl2 := Nat.lt_of_lt_of_le dl hb1.size
                        go_wp2
                        exact Flow.post_det hb1 (Grow.refl _) rfl rfl
                      apply Flow.det_step
                      · go_light
                        intro w1 hC1
                        simp only [Flow.fill, Flow.after, Flow.at_, List.nil_append, List.cons_append, List.getD_cons_zero, List.getD_cons_succ, det, forall_eq, List.setIfInBounds_toArray, List.set_cons_zero, List.set_cons_succ, List.drop, List.length]
                        have hb1 := hC1
                        have j0 := (hb1.cell (p := ⟨(w.heap.size + 1 + 1 + 1 + 1), 0, none⟩) gwl).trans gw; have j2 := (hb1.cell (p := ⟨wr.heap.size, 2, none⟩) dl).trans d2; have jl1 := Nat.lt_of_lt_of_le gwl hb1.size; have jl2 := Nat.lt_of_lt_of_le dl hb1.size
                        go_wp2
                        exact Flow.post_det hb1 (Grow.refl _) rfl rfl
                      apply Flow.det_step
                      · go_light
                        intro w1 hC1
                        simp only [Flow.fill, Flow.after, Flow.at_, List.nil_append, List.cons_append, List.getD_cons_zero, List.getD_cons_succ, det, forall_eq, List.setIfInBounds_toArray, List.set_cons_zero, List.set_cons_succ, List.drop, List.length]
                        have hb1 := hC1
                        have j0 := (hb1.cell (p := ⟨(w.heap.size + 1 + 1 + 1 + 1), 0, none⟩) gwl).trans gw; have j2 := (hb1.cell (p := ⟨wr.heap.size, 2, none⟩) dl).trans d2; have jl1 := Nat.lt_of_lt_of_le gwl hb1.size; have jl2 := Nat.lt_of_lt_of_le dl hb1.size
                        go_wp2
                        exact Flow.post_det hb1 (Grow.refl _) rfl rfl
                      apply Flow.det_step
                      · go_light
                        intro w1 hC1
                        simp only [Flow.fill, Flow.after, Flow.at_, List.nil_append, List.cons_append, List.getD_cons_zero, List.getD_cons_succ, det, forall_eq, List.setIfInBounds_toArray, List.set_cons_zero, List.set_cons_succ, List.drop, List.length]
                        have hb1 := hC1
                        have j0 := (hb1.cell (p := ⟨(w.heap.size + 1 + 1 + 1 + 1), 0, none⟩) gwl).trans gw; have j2 := (hb1.cell (p := ⟨wr.heap.size, 2, none⟩) dl).trans d2; have jl1 := Nat.lt_of_lt_of_le gwl hb1.size; have jl2 := Nat.lt_of_lt_of_le dl hb1.size
                        go_wp2
                        exact Flow.post_det hb1 (Grow.refl _) rfl rfl
                      refine Flow.st_step (det (.slice A2 (N - (i + 1)) (c9' - (i + 1)))) ?_ ?_
                      · go_light
                        intro w1 hC1
                        simp only [Flow.fill, Flow.after, Flow.at_, List.nil_append, List.cons_append, List.getD_cons_zero, List.getD_cons_succ, det, forall_eq, List.setIfInBounds_toArray, List.set_cons_zero, List.set_cons_succ, List.drop, List.length]
                        have hb1 := hC1
                        have j0 := (hb1.cell (p := ⟨(w.heap.size + 1 + 1 + 1 + 1), 0, none⟩) gwl).trans gw; have j2 := (hb1.cell (p := ⟨wr.heap.size, 2, none⟩) dl).trans d2; have jl1 := Nat.lt_of_lt_of_le gwl hb1.size; have jl2 := Nat.lt_of_lt_of_le dl hb1.size
                        refine wpList_slice_lo rfl 165 167 (.tmp 112) (.tmp 115) rfl Try.underlying165 (.slice (some ⟨b, o, none⟩) N c9') (.int .i64 ((i : Int) + 1)) rfl rfl (.slice A2 (N - (i + 1)) (c9' - (i + 1))) (hcut _) ?_
                        exact Flow.post_det hb1 (Grow.refl _) rfl rfl
                      intro w1 hC1
                      simp only [Flow.fill, Flow.after, Flow.at_, List.nil_append, List.cons_append, List.getD_cons_zero, List.getD_cons_succ, det, forall_eq, List.setIfInBounds_toArray, List.set_cons_zero, List.set_cons_succ, List.drop, List.length]
                      rintro _ - _ ⟨A1, c1, rfl, hr1⟩
                      have hb1 := hC1
                      have HB1 := Lib.hid hb1
                      have HR1 := Lib.hid hr1
                      have j0 := (hb1.cell (p := ⟨(w.heap.size + 1 + 1 + 1 + 1), 0, none⟩) gwl).trans gw
                      have jl1 := Nat.lt_of_lt_of_le gwl hb1.size
                      have HXS := Lib.hid (HCUTR.out xs HRD5.out w1 hb1)
                      clear hb1 hr1 d0 d2 dl
                      refine wpList_append_row _ rfl (.tmp 111) (.tmp 116) 165 rfl W5.heap.size 167 i0 (.agg #[.int .i64 0, .int .u32 0, .int .u32 0, .int .i64 0, .int .i64 0, .slice none 0 0]) 6 56 Try.underlying165 hinf hz0 hz1 hz2 rfl (by decide) (.slice A1 i c1) i (xs.take (i * 6)) rfl HR1.out w1.heap.size A2 (N - (i + 1)) (c9' - (i + 1)) (xs.drop ((i + 1) * 6)) rfl HXS.out (fun u hu => HONE.out u (List.mem_of_mem_drop hu)) (by unfold maxLen; omega) (by omega) HB1.out.size ?_
                      intro A9 c10 w9 hr9 hg9 ho9
                      have hb9 : Below W5.heap.size W5 w9 := HB1.out.grown hg9 HB1.out.size (fun k hk => (HR1.out.lt k hk).1)
                      have hlen9 : i + (N - (i + 1)) = N - 1 := by omega
                      rw [hlen9] at hr9
                      have q0 := (hb9.cell (p := ⟨(w.heap.size + 1 + 1 + 1 + 1), 0, none⟩) gwl).trans gw
                      have qf := ((HL5.out.grow hb9).wblk).free 0
                      rw [show l5.wb = (w.heap.size + 1 + 1 + 1 + 1) from HAL5.out.2.1] at qf
                      have ql := Nat.lt_of_lt_of_le gwl hb9.size
                      have HN9 := Lib.hid (HNX.out w9 (.slice A9 (N - 1) c10) hb9 (fun k hk => (hr9.lt k hk).1) hr9 (by omega))
                      have HF9 := Lib.hid (fr_trans HF5.out (fr_below hb9))
                      have HP : Hid (RnQ W3 (w.heap.size + 1) (ray0 (w.heap.size + 1 + 1 + 1) (w.heap.size + 1 + 1 + 1 + 1) (w.heap.size + 1) (w.heap.size + 1 + 1)) (y.deed ⟨4, ee, i, ds⟩) (w9.setCell ⟨(w.heap.size + 1 + 1 + 1 + 1), 0, none⟩ (.slice A9 (N - 1) c10))) := Lib.hid (by
                        rw [HEQ.out]
                        have h9 := HN9.out
                        refine ⟨{ l5 with v := .slice A9 (N - 1) c10, z := l5.z }, HAL5.out, ?_, ?_⟩
                        · have e5 : l5.wb = (w.heap.size + 1 + 1 + 1 + 1) := HAL5.out.2.1
                          rw [← e5]
                          exact h9
                        · exact HF9.out.setCell (p := ⟨(w.heap.size + 1 + 1 + 1 + 1), 0, none⟩) (fun _ => by have := HWLOW.out; omega) _)
                      rw [hlen9]
                      clear hr9 hg9 ho9 hb9 gw gwl gwf j0 jl1
                      go_wp2
                      go_meet
                      exact HP
                  · have HPE := Lib.hid hpe
                    have kb9 : Wd.cell? ⟨b, o + i * 6, none⟩ = some (.int .i64 1) := by
                      have e9 := HRT.out.trans hpe
                      rw [e9] at kb0
                      exact kb0
                    clear hpe h1 kb0
                    have kb0 := kb9
                    clear kb9
                    obtain ⟨Wx, hWx⟩ : ∃ Wx, Wx = Wd.alloc (.cells #[.int .i64 1, .int .u32 r.sg.seq, .int .u32 r.sg.ack, .int .i64 r.sg.flags, .int .i64 r.sg.window, .slice r.A r.sg.dat.length r.c] 167) := ⟨_, rfl⟩
                    have hbx : Below Wd.heap.size Wd Wx := by rw [hWx]; exact (Below.refl _ _).alloc (Nat.le_refl _) _
                    have hxb : Blk Wx Wd.heap.size #[.int .i64 1, .int .u32 r.sg.seq, .int .u32 r.sg.ack, .int .i64 r.sg.flags, .int .i64 r.sg.window, .slice r.A r.sg.dat.length r.c] 167 := by rw [hWx]; exact Blk.new _ _ _
                    have HLX : Hid (Rn Wx (w.heap.size + 1) l1 y) := Lib.hid (Rn.grow HLD.out hbx)
                    have HFX : Hid (Fr (fun k => w.heap.size + 1 ≤ k) W3 Wx) := Lib.hid (fr_trans HFD2.out (fr_below hbx))
                    have HRX : Hid (r.Fine Wx l1.z) := Lib.hid (HRF.out.fr (Fr.of_grow hbx) (fun _ _ e => e) (fun _ e => e))
                    have HDX := Lib.hid (HDK.out.fr (Fr.of_grow hbx) id)
                    have HBX : Hid (w.heap.size + 1 ≤ Wx.heap.size) := Lib.hid (Nat.le_trans HBD.out hbx.size)
                    have HEX := Lib.hid (hbx.cell (p := ⟨(w.heap.size + 1 + 1 + 1), 1, none⟩) gel)
                    have gelx := Nat.lt_of_lt_of_le gel hbx.size
                    have HDLT := Lib.hid dl
                    go_upto_region 26 with fail
                    rw [← hWx]
                    have x0 := hxb.cell 0
                    have x1 := hxb.cell 1
                    have x2 := hxb.cell 2
                    have x3 := hxb.cell 3
                    have x4 := hxb.cell 4
                    have x5 := hxb.cell 5
                    have xl := hxb.lt
                    have dx := HDX.out.cell 0
                    have dlx := HDX.out.lt
                    dsimp at x0 x1 x2 x3 x4 x5 dx
                    have gx := HLX.out.eblk.cell 1
                    dsimp only [Ray.ecells] at gx
                    simp only [List.getElem?_toArray, List.getElem?_cons_succ, List.getElem?_cons_zero] at gx
                    rw [HEB.out, HG1.out] at gx
                    have HC := Lib.hid (r_came2 (Rn.grow HLX.out ((Below.refl _ Wx).drew)) HOK.out (by have := HK.out; omega) (e := 1) (by omega) HBX.out r.sg (by rw [HRS.out]; exact HPW.out.2) r.A r.c HRX.out.rb.drew HRX.out.own HRX.out.cap.1 HRX.out.cap.2)
                    rw [HG1.out] at HC
                    have HXB := Lib.hid hxb
                    have HELX : Hid (∀ e, e < 2 → ¬ Ob2F (l1.q e) (l1.vo e) (l1.vi e) Wd.heap.size) := Lib.hid (fun e he => HLD.out.ends_lt (Nat.le_refl _) he)
                    clear hWx hbx hxb kb0 kb1 kb2 kb3 kb4 kb5 hbl gw gwl gel g0 g1 d0 d1 d2 d3 dl
                    have d0 := dx
                    go_wp2_with fail
                    go_region_held3 (fun w' => w'.cell? ⟨Wd.heap.size, 0, none⟩ = some (.int .i64 1) ∧ w'.cell? ⟨(w.heap.size + 1 + 1 + 1), 1, none⟩ = some (.pointer (some ⟨w.heap.size + 1 + 1, 0, none⟩)) ∧ w'.cell? ⟨Wd.heap.size, 1, none⟩ = some (.int .u32 r.sg.seq) ∧ w'.cell? ⟨Wd.heap.size, 2, none⟩ = some (.int .u32 r.sg.ack) ∧ w'.cell? ⟨Wd.heap.size, 3, none⟩ = some (.int .i64 r.sg.flags) ∧ w'.cell? ⟨Wd.heap.size, 4, none⟩ = some (.int .i64 r.sg.window) ∧ w'.cell? ⟨Wd.heap.size, 5, none⟩ = some (.slice r.A r.sg.dat.length r.c))
                      (first
                        | go_keep
                        | (refine ⟨?_, ?_, ?_, ?_, ?_, ?_, ?_⟩
                           · assumption
                           · assumption
                           · assumption
                           · assumption
                           · assumption
                           · assumption
                           · assumption))
                      (first
                      | (refine step_call_gow rfl 53 #[.tmp 102, .tmp 104] #[64, 25] rfl #[.pointer (some ⟨w.heap.size + 1 + 1, 0, none⟩), .agg #[.int .u32 r.sg.seq, .int .u32 r.sg.ack, .int .i64 r.sg.flags, .int .i64 r.sg.window, .slice r.A r.sg.dat.length r.c]] (by simp [Act.eval, Act.put]) (run53r _ _) _ HC.out ?_
                         rintro v5 W5 ⟨l5, hal5, hm5, hf5, hk5⟩
                         have HL5 := Lib.hid hm5
                         have HF5a := Lib.hid hf5
                         have HK5 := Lib.hid hk5
                         have HAL5a := Lib.hid hal5
                         have hx5 := hk5 _ _ _ HXB.out.drew (by rw [← HG1.out]; exact HELX.out 1 (by omega))
                         have y0 : W5.cell? ⟨Wd.heap.size, 0, none⟩ = some (.int .i64 1) := hx5.cell 0
                         have y1 : W5.cell? ⟨Wd.heap.size, 1, none⟩ = some (.int .u32 r.sg.seq) := hx5.cell 1
                         have y2 : W5.cell? ⟨Wd.heap.size, 2, none⟩ = some (.int .u32 r.sg.ack) := hx5.cell 2
                         have y3 : W5.cell? ⟨Wd.heap.size, 3, none⟩ = some (.int .i64 r.sg.flags) := hx5.cell 3
                         have y4 : W5.cell? ⟨Wd.heap.size, 4, none⟩ = some (.int .i64 r.sg.window) := hx5.cell 4
                         have y5c : W5.cell? ⟨Wd.heap.size, 5, none⟩ = some (.slice r.A r.sg.dat.length r.c) := hx5.cell 5
                         have ye := hm5.eblk.cell 1
                         dsimp only [Ray.ecells] at ye
                         simp only [List.getElem?_toArray, List.getElem?_cons_succ, List.getElem?_cons_zero] at ye
                         rw [show l5.eb = (w.heap.size + 1 + 1 + 1) from hal5.1.trans HEB.out, show l5.q 1 = w.heap.size + 1 + 1 by rw [hal5.2.2]; exact HG1.out] at ye
                         clear hm5 hf5 hk5 hal5 hx5))
                    all_goals
                      have HAL5 : Hid (Alike (ray0 (w.heap.size + 1 + 1 + 1) (w.heap.size + 1 + 1 + 1 + 1) (w.heap.size + 1) (w.heap.size + 1 + 1)) l5) := Lib.hid ⟨HAL5a.out.1.trans HAL.out.1, HAL5a.out.2.1.trans HAL.out.2.1, HAL5a.out.2.2.trans HAL.out.2.2⟩
                      have HF5 : Hid (Fr (fun k => w.heap.size + 1 ≤ k) W3 W5) := Lib.hid (fr_trans (fr_trans HFX.out (fr_below ((Below.refl _ Wx).drew))) HF5a.out)
                      have HB5 : Hid (w.heap.size + 1 ≤ W5.heap.size) := Lib.hid (Nat.le_trans HBX.out HF5a.out.size)
                      have hdk5 := HK5.out wr.heap.size _ _ HDX.out.drew (by rw [← HG1.out]; exact HEL.out 1 (by omega))
                      clear d0 x0 x1 x2 x3 x4 x5 xl dx dlx gx gelx y0 y1 y2 y3 y4 y5c ye
                      have d0 := hdk5.cell 0
                      have d2 := hdk5.cell 2
                      have dl := hdk5.lt
                      dsimp at d0 d2
                      have HN5 : Hid ((y.onE 1 (fun s => s.cameS r.sg)).way.length = N) := Lib.hid (by rw [Sys.onE_way]; exact HN.out)
                      have HEQ : Hid (y.deed ⟨4, ee, i, ds⟩ = { y.onE 1 (fun s => s.cameS r.sg) with way := (y.onE 1 (fun s => s.cameS r.sg)).way.eraseIdx i }) := Lib.hid (by
                        rw [HWD.out]
                        unfold Sys.wayD
                        rw [if_neg (by decide), if_pos rfl, HPE.out, HRS.out, Sys.onE_way])
                      clear hdk5
                      generalize y.onE 1 (fun s => s.cameS r.sg) = y5 at *
                      have hiN : i + 1 ≤ N := by have := hiI; omega
                      obtain ⟨A8, c9, xs, hev, hrd, hone, hnext⟩ := Rn.erase HL5.out HB5.out i
                      obtain ⟨A8', c9', hev', hc91, hc92⟩ := HL5.out.way.shape
                      rw [HN5.out] at hev hrd hnext hev' hc91
                      rw [hev'] at hev
                      injection hev with hev1 hev2 hev3
                      subst hev1; subst hev3
                      obtain ⟨b, o, rfl, hbo, -⟩ := hrd.2 (by omega)
                      have gw := HL5.out.wblk.cell 0
                      have gwl := HL5.out.wblk.lt
                      have gwf := HL5.out.wblk.free 0
                      simp only [List.getElem?_toArray, List.getElem?_cons_zero] at gw
                      rw [hev', show l5.wb = (w.heap.size + 1 + 1 + 1 + 1) from HAL5.out.2.1] at gw
                      rw [show l5.wb = (w.heap.size + 1 + 1 + 1 + 1) from HAL5.out.2.1] at gwl gwf
                      have HRD5 := Lib.hid hrd
                      have HONE := Lib.hid hone
                      have HNX := Lib.hid hnext
                      have hW64 : N ≤ 64 := HW64.out
                      have hic : i ≤ c9' := by omega
                      have hiN2 : i ≤ N := by omega
                      have hcm : c9' ≤ 9223372036854775807 := by unfold maxLen at hc92; exact hc92
                      have hwi : IntKind.i64.wrap ((i : Int) + 1) = (i : Int) + 1 := IntWalk.i64_in _ (by omega)
                      obtain ⟨A2, hrun, hrow2⟩ := Rn.cut HL5.out HN5.out hev' (i + 1) hiN
                      have hcut : ∀ W, (Instr.slice 165 (.slice (some ⟨b, o, none⟩) N c9') (some (.int .i64 ((i : Int) + 1))) none none).run Try.prog W = .ok (.slice A2 (N - (i + 1)) (c9' - (i + 1))) W := fun W => by simpa using hrun W
                      have HCUTR := Lib.hid hrow2
                      clear hev' hrd hone hnext hev2 hc91 hc92 hrun hrow2 hbo
                      go_wp2_with fail
                      refine wp_region_walk (fun w' => Below W5.heap.size W5 w') [[], [], [], [(108, 2)], [(107, 1), (109, 3)], [(106, 0), (110, 4)], [], [], [(113, 7)], [(114, 8)], [(112, 6), (115, 9)]]
                        [(106, 0), (107, 1), (108, 2), (109, 3), (110, 4), (111, 5), (112, 6), (113, 7), (114, 8), (115, 9), (116, 10)] (by kernel_rfl) (by kernel_rfl) (by kernel_rfl) ((Below.refl _ W5).drew) ?_
                      refine Flow.st_step (⟨fun v W => ∃ g, v = .slice (some ⟨g, 0, none⟩) 0 0 ∧ Row W W5.heap.size 167 6 (.slice (some ⟨g, 0, none⟩) 0 0) 0 [], fun _ _ _ h hg => by obtain ⟨g, h1, h2⟩ := h; exact ⟨g, h1, h2.grow hg⟩⟩) ?_ ?_
                      · go_light
                        intro w1 hC1
                        simp only [Flow.fill, Flow.after, Flow.at_, List.nil_append, List.cons_append, List.getD_cons_zero, List.getD_cons_succ, det, forall_eq, List.setIfInBounds_toArray, List.set_cons_zero, List.set_cons_succ, List.drop, List.length]
                        have hb1 := hC1
                        have j0 := (hb1.cell (p := ⟨(w.heap.size + 1 + 1 + 1 + 1), 0, none⟩) gwl).trans gw; have j2 := (hb1.cell (p := ⟨wr.heap.size, 2, none⟩) dl).trans d2; have jl1 := Nat.lt_of_lt_of_le gwl hb1.size; have jl2 := Nat.lt_of_lt_of_le dl hb1.size
                        go_wp2
                        exact Flow.post_st (hb1.alloc hb1.size _) (Grow.alloc _ _) rfl rfl ⟨_, rfl, row_lit0 _ _ _ _ hb1.size⟩
                      apply Flow.det_step
                      · go_light
                        intro w1 hC1
                        simp only [Flow.fill, Flow.after, Flow.at_, List.nil_append, List.cons_append, List.getD_cons_zero, List.getD_cons_succ, det, forall_eq, List.setIfInBounds_toArray, List.set_cons_zero, List.set_cons_succ, List.drop, List.length]
                        have hb1 := hC1
                        have j0 := (hb1.cell (p := ⟨(w.heap.size + 1 + 1 + 1 + 1), 0, none⟩) gwl).trans gw; have j2 := (hb1.cell (p := ⟨wr.heap.size, 2, none⟩) dl).trans d2; have jl1 := Nat.lt_of_lt_of_le gwl hb1.size; have jl2 := Nat.lt_of_lt_of_le dl hb1.size
                        go_wp2
                        exact Flow.post_det hb1 (Grow.refl _) rfl rfl
                      apply Flow.det_step
                      · go_light
                        intro w1 hC1
                        simp only [Flow.fill, Flow.after, Flow.at_, List.nil_append, List.cons_append, List.getD_cons_zero, List.getD_cons_succ, det, forall_eq, List.setIfInBounds_toArray, List.set_cons_zero, List.set_cons_succ, List.drop, List.length]
                        have hb1 := hC1
                        have j0 := (hb1.cell (p := ⟨(w.heap.size + 1 + 1 + 1 + 1), 0, none⟩) gwl).trans gw; have j2 := (hb1.cell (p := ⟨wr.heap.size, 2, none⟩) dl).trans d2; have jl1 := Nat.lt_of_lt_of_le gwl hb1.size; have jl2 := Nat.lt_of_lt_of_le dl hb1.size
                        go_wp2
                        exact Flow.post_det hb1 (Grow.refl _) rfl rfl
                      apply Flow.det_step
                      · go_light
                        intro w1 hC1
                        simp only [Flow.fill, Flow.after, Flow.at_, List.nil_append, List.cons_append, List.getD_cons_zero, List.getD_cons_succ, det, forall_eq, List.setIfInBounds_toArray, List.set_cons_zero, List.set_cons_succ, List.drop, List.length]
                        have hb1 := hC1
                        have j0 := (hb1.cell (p := ⟨(w.heap.size + 1 + 1 + 1 + 1), 0, none⟩) gwl).trans gw; have j2 := (hb1.cell (p := ⟨wr.heap.size, 2, none⟩) dl).trans d2; have jl1 := Nat.lt_of_lt_of_le gwl hb1.size; have jl2 := Nat.lt_of_lt_of_le dl hb1.size
                        go_wp2
                        exact Flow.post_det hb1 (Grow.refl _) rfl rfl
                      apply Flow.det_step
                      · go_light
                        intro w1 hC1
                        simp only [Flow.fill, Flow.after, Flow.at_, List.nil_append, List.cons_append, List.getD_cons_zero, List.getD_cons_succ, det, forall_eq, List.setIfInBounds_toArray, List.set_cons_zero, List.set_cons_succ, List.drop, List.length]
                        have hb1 := hC1
                        have j0 := (hb1.cell (p := ⟨(w.heap.size + 1 + 1 + 1 + 1), 0, none⟩) gwl).trans gw; have j2 := (hb1.cell (p := ⟨wr.heap.size, 2, none⟩) dl).trans d2; have jl1 := Nat.lt_of_lt_of_le gwl hb1.size; have jl2 := Nat.lt_of_lt_of_le dl hb1.size
                        go_wp2
                        exact Flow.post_det hb1 (Grow.refl _) rfl rfl
                      refine Flow.st_step (⟨fun v W => ∃ A c, v = .slice A i c ∧ Row W W5.heap.size 167 6 (.slice A i c) i (xs.take (i * 6)), fun _ _ _ h hg => by obtain ⟨A, c, h1, h2⟩ := h; exact ⟨A, c, h1, h2.grow hg⟩⟩) ?_ ?_
                      · go_light
                        intro w1 hC1
                        simp only [Flow.fill, Flow.after, Flow.at_, List.nil_append, List.cons_append, List.getD_cons_zero, List.getD_cons_succ, det, forall_eq, List.setIfInBounds_toArray, List.set_cons_zero, List.set_cons_succ, List.drop, List.length]
                        rintro _ ⟨g0, rfl, hr0⟩
                        have hb1 := hC1
                        have j0 := (hb1.cell (p := ⟨(w.heap.size + 1 + 1 + 1 + 1), 0, none⟩) gwl).trans gw; have j2 := (hb1.cell (p := ⟨wr.heap.size, 2, none⟩) dl).trans d2; have jl1 := Nat.lt_of_lt_of_le gwl hb1.size; have jl2 := Nat.lt_of_lt_of_le dl hb1.size
                        refine wpList_append_litS _ rfl (.tmp 106) (.tmp 110) 165 rfl W5.heap.size 167 i0 (.agg #[.int .i64 0, .int .u32 0, .int .u32 0, .int .i64 0, .int .i64 0, .slice none 0 0]) 6 56 Try.underlying165 hinf hz0 hz1 hz2 rfl (by decide) g0 rfl hr0 W5.heap.size (some ⟨b, o, none⟩) i c9' (xs.take (i * 6)) rfl ((HRD5.out.take (k := i) (by omega)).below' hb1 (Nat.le_refl _)) (by unfold maxLen; omega) (by omega) hb1.size ?_
                        intro A' c' w' hrow hgr
                        exact Flow.post_st (hb1.trans (hgr.mono hb1.size)) hgr rfl rfl ⟨A', c', rfl, hrow⟩
                      apply Flow.det_step
                      · go_light
                        intro w1 hC1
                        simp only [Flow.fill, Flow.after, Flow.at_, List.nil_append, List.cons_append, List.getD_cons_zero, List.getD_cons_succ, det, forall_eq, List.setIfInBounds_toArray, List.set_cons_zero, List.set_cons_succ, List.drop, List.length]
                        have hb1 := hC1
                        have j0 := (hb1.cell (p := ⟨(w.heap.size + 1 + 1 + 1 + 1), 0, none⟩) gwl).trans gw; have j2 := (hb1.cell (p := ⟨wr.heap.size, 2, none⟩) dl).trans d2; have jl1 := Nat.lt_of_lt_of_le gwl hb1.size; have jl2 := Nat.lt_of_lt_of_le dl hb1.size
                        go_wp2
                        exact Flow.post_det hb1 (Grow.refl _) rfl rfl
                      apply Flow.det_step
                      · go_light
                        intro w1 hC1
                        simp only [Flow.fill, Flow.after, Flow.at_, List.nil_append, List.cons_append, List.getD_cons_zero, List.getD_cons_succ, det, forall_eq, List.setIfInBounds_toArray, List.set_cons_zero, List.set_cons_succ, List.drop, List.length]
                        have hb1 := hC1
                        have j0 := (hb1.cell (p := ⟨(w.heap.size + 1 + 1 + 1 + 1), 0, none⟩) gwl).trans gw; have j2 := (hb1.cell (p := ⟨wr.heap.size, 2, none⟩) dl).trans d2; have jl1 := Nat.lt_of_lt_of_le gwl hb1.size; have jl2 := Nat.lt_of_lt_of_le dl hb1.size
                        go_wp2
                        exact Flow.post_det hb1 (Grow.refl _) rfl rfl
                      apply Flow.det_step
                      · go_light
                        intro w1 hC1
                        simp only [Flow.fill, Flow.after, Flow.at_, List.nil_append, List.cons_append, List.getD_cons_zero, List.getD_cons_succ, det, forall_eq, List.setIfInBounds_toArray, List.set_cons_zero, List.set_cons_succ, List.drop, List.length]
                        have hb1 := hC1
                        have j0 := (hb1.cell (p := ⟨(w.heap.size + 1 + 1 + 1 + 1), 0, none⟩) gwl).trans gw; have j2 := (hb1.cell (p := ⟨wr.heap.size, 2, none⟩) dl).trans d2; have jl1 := Nat.lt_of_lt_of_le gwl hb1.size; have jl2 := Nat.lt_of_lt_of_le dl hb1.size
                        go_wp2
                        exact Flow.post_det hb1 (Grow.refl _) rfl rfl
                      apply Flow.det_step
                      · go_light
                        intro w1 hC1
                        simp only [Flow.fill, Flow.after, Flow.at_, List.nil_append, List.cons_append, List.getD_cons_zero, List.getD_cons_succ, det, forall_eq, List.setIfInBounds_toArray, List.set_cons_zero, List.set_cons_succ, List.drop, List.length]
                        have hb1 := hC1
                        have j0 := (hb1.cell (p := ⟨(w.heap.size + 1 + 1 + 1 + 1), 0, none⟩) gwl).trans gw; have j2 := (hb1.cell (p := ⟨wr.heap.size, 2, none⟩) dl).trans d2; have jl1 := Nat.lt_of_lt_of_le gwl hb1.size; have jl2 := Nat.lt_of_lt_of_le dl hb1.size
                        go_wp2
                        exact Flow.post_det hb1 (Grow.refl _) rfl rfl
                      refine Flow.st_step (det (.slice A2 (N - (i + 1)) (c9' - (i + 1)))) ?_ ?_
                      · go_light
                        intro w1 hC1
                        simp only [Flow.fill, Flow.after, Flow.at_, List.nil_append, List.cons_append, List.getD_cons_zero, List.getD_cons_succ, det, forall_eq, List.setIfInBounds_toArray, List.set_cons_zero, List.set_cons_succ, List.drop, List.length]
                        have hb1 := hC1
                        have j0 := (hb1.cell (p := ⟨(w.heap.size + 1 + 1 + 1 + 1), 0, none⟩) gwl).trans gw; have j2 := (hb1.cell (p := ⟨wr.heap.size, 2, none⟩) dl).trans d2; have jl1 := Nat.lt_of_lt_of_le gwl hb1.size; have jl2 := Nat.lt_of_lt_of_le dl hb1.size
                        refine wpList_slice_lo rfl 165 167 (.tmp 112) (.tmp 115) rfl Try.underlying165 (.slice (some ⟨b, o, none⟩) N c9') (.int .i64 ((i : Int) + 1)) rfl rfl (.slice A2 (N - (i + 1)) (c9' - (i + 1))) (hcut _) ?_
                        exact Flow.post_det hb1 (Grow.refl _) rfl rfl
                      intro w1 hC1
                      simp only [Flow.fill, Flow.after, Flow.at_, List.nil_append, List.cons_append, List.getD_cons_zero, List.getD_cons_succ, det, forall_eq, List.setIfInBounds_toArray, List.set_cons_zero, List.set_cons_succ, List.drop, List.length]
                      rintro _ - _ ⟨A1, c1, rfl, hr1⟩
                      have hb1 := hC1
                      have HB1 := Lib.hid hb1
                      have HR1 := Lib.hid hr1
                      have j0 := (hb1.cell (p := ⟨(w.heap.size + 1 + 1 + 1 + 1), 0, none⟩) gwl).trans gw
                      have jl1 := Nat.lt_of_lt_of_le gwl hb1.size
                      have HXS := Lib.hid (HCUTR.out xs HRD5.out w1 hb1)
                      clear hb1 hr1 d0 d2 dl
                      refine wpList_append_row _ rfl (.tmp 111) (.tmp 116) 165 rfl W5.heap.size 167 i0 (.agg #[.int .i64 0, .int .u32 0, .int .u32 0, .int .i64 0, .int .i64 0, .slice none 0 0]) 6 56 Try.underlying165 hinf hz0 hz1 hz2 rfl (by decide) (.slice A1 i c1) i (xs.take (i * 6)) rfl HR1.out w1.heap.size A2 (N - (i + 1)) (c9' - (i + 1)) (xs.drop ((i + 1) * 6)) rfl HXS.out (fun u hu => HONE.out u (List.mem_of_mem_drop hu)) (by unfold maxLen; omega) (by omega) HB1.out.size ?_
                      intro A9 c10 w9 hr9 hg9 ho9
                      have hb9 : Below W5.heap.size W5 w9 := HB1.out.grown hg9 HB1.out.size (fun k hk => (HR1.out.lt k hk).1)
                      have hlen9 : i + (N - (i + 1)) = N - 1 := by omega
                      rw [hlen9] at hr9
                      have q0 := (hb9.cell (p := ⟨(w.heap.size + 1 + 1 + 1 + 1), 0, none⟩) gwl).trans gw
                      have qf := ((HL5.out.grow hb9).wblk).free 0
                      rw [show l5.wb = (w.heap.size + 1 + 1 + 1 + 1) from HAL5.out.2.1] at qf
                      have ql := Nat.lt_of_lt_of_le gwl hb9.size
                      have HN9 := Lib.hid (HNX.out w9 (.slice A9 (N - 1) c10) hb9 (fun k hk => (hr9.lt k hk).1) hr9 (by omega))
                      have HF9 := Lib.hid (fr_trans HF5.out (fr_below hb9))
                      have HP : Hid (RnQ W3 (w.heap.size + 1) (ray0 (w.heap.size + 1 + 1 + 1) (w.heap.size + 1 + 1 + 1 + 1) (w.heap.size + 1) (w.heap.size + 1 + 1)) (y.deed ⟨4, ee, i, ds⟩) (w9.setCell ⟨(w.heap.size + 1 + 1 + 1 + 1), 0, none⟩ (.slice A9 (N - 1) c10))) := Lib.hid (by
                        rw [HEQ.out]
                        have h9 := HN9.out
                        refine ⟨{ l5 with v := .slice A9 (N - 1) c10, z := l5.z }, HAL5.out, ?_, ?_⟩
                        · have e5 : l5.wb = (w.heap.size + 1 + 1 + 1 + 1) := HAL5.out.2.1
                          rw [← e5]
                          exact h9
                        · exact HF9.out.setCell (p := ⟨(w.heap.size + 1 + 1 + 1 + 1), 0, none⟩) (fun _ => by have := HWLOW.out; omega) _)
                      rw [hlen9]
                      clear hr9 hg9 ho9 hb9 gw gwl gwf j0 jl1
                      go_wp2
                      go_meet
                      exact HP
            · as_aux_lemma =>
                cases th with
                | false =>
                  have hx := of_decide_eq_false HTH.out
                  have HP : Hid (RnQ W3 (w.heap.size + 1) (ray0 (w.heap.size + 1 + 1 + 1) (w.heap.size + 1 + 1 + 1 + 1) (w.heap.size + 1) (w.heap.size + 1 + 1)) (y.deed ⟨5, ee, nn, ds⟩) Wd) := Lib.hid (by rw [deed_else (by dsimp only; omega) (by dsimp only; rw [HN.out]; omega) (by dsimp only; omega)]; exact HQD.out)
                  clear hx
                  go_wp2
                  go_meet
                  exact HP
                | true =>
                  have hx := of_decide_eq_true HTH.out
                  obtain ⟨i, rfl⟩ : ∃ i : Nat, nn = i := ⟨nn.toNat, by omega⟩
                  obtain ⟨p, hp⟩ : ∃ p, y.way[i]? = some p := ⟨_, List.getElem?_eq_getElem (show i < y.way.length by rw [HN.out]; omega)⟩
                  have HWD := Lib.hid (deed_rw y 5 ee i ds (by omega) p hp)
                  have hiI : (i : Int) < N := hx.2
                  have hi0 : (0 : Int) ≤ (i : Int) := hx.1
                  have HW64 : Hid (N ≤ 64) := Lib.hid (by rw [← HN.out]; exact HOK.out.len)
                  obtain ⟨r, b, o, c8, ev, hc1, hc2, hrt, hrs, hrf, hbl, hlt2, kb0, kb1, kb2, kb3, kb4, kb5⟩ := HLD.out.letter hp
                  have HPW := Lib.hid (HOK.out.way p (List.mem_of_getElem? hp))
                  rw [HN.out, HV.out] at ev
                  injection ev with ev1 ev2 ev3
                  subst ev1; subst ev3
                  have HRF := Lib.hid hrf
                  have HRT := Lib.hid hrt
                  have HRS := Lib.hid hrs
                  have HWLOW : Hid (w.heap.size + 1 ≤ (w.heap.size + 1 + 1 + 1 + 1)) := Lib.hid (by omega)
                  clear hx hrf hrt hrs hc1 hc2 ev2 hlt2 hp
                  obtain ⟨Wx, hWx⟩ : ∃ Wx, Wx = Wd.alloc (.cells #[.int .i64 r.who, .int .u32 r.sg.seq, .int .u32 r.sg.ack, .int .i64 r.sg.flags, .int .i64 r.sg.window, .slice r.A r.sg.dat.length r.c] 167) := ⟨_, rfl⟩
                  have hbx : Below Wd.heap.size Wd Wx := by rw [hWx]; exact (Below.refl _ _).alloc (Nat.le_refl _) _
                  have hxb : Blk Wx Wd.heap.size #[.int .i64 r.who, .int .u32 r.sg.seq, .int .u32 r.sg.ack, .int .i64 r.sg.flags, .int .i64 r.sg.window, .slice r.A r.sg.dat.length r.c] 167 := by rw [hWx]; exact Blk.new _ _ _
                  have HLX : Hid (Rn Wx (w.heap.size + 1) l1 y) := Lib.hid (Rn.grow HLD.out hbx)
                  have HFX : Hid (Fr (fun k => w.heap.size + 1 ≤ k) W3 Wx) := Lib.hid (fr_trans HFD2.out (fr_below hbx))
                  have HRX : Hid (r.Fine Wx l1.z) := Lib.hid (HRF.out.fr (Fr.of_grow hbx) (fun _ _ e => e) (fun _ e => e))
                  have HDX := Lib.hid (HDK.out.fr (Fr.of_grow hbx) id)
                  have HBX : Hid (w.heap.size + 1 ≤ Wx.heap.size) := Lib.hid (Nat.le_trans HBD.out hbx.size)
                  have HEX := Lib.hid (hbx.cell (p := ⟨(w.heap.size + 1 + 1 + 1), 0, none⟩) gel)
                  have gelx := Nat.lt_of_lt_of_le gel hbx.size
                  have HDLT := Lib.hid dl
                  go_upto_region 26 with fail
                  rw [← hWx]
                  have dx := HDX.out.cell 0
                  have d2 := HDX.out.cell 2
                  have dl := HDX.out.lt
                  dsimp at dx d2
                  obtain ⟨W5, hW5⟩ : ∃ W5, W5 = Wx := ⟨_, rfl⟩
                  subst hW5
                  have HL5 := HLX
                  have HB5 := HBX
                  have HN5 := HN
                  have HF5 := HFX
                  obtain ⟨l5, hl5⟩ : ∃ l5, l5 = l1 := ⟨_, rfl⟩
                  subst hl5
                  have HAL5 := HAL
                  have HEQ : Hid (y.deed ⟨5, ee, i, ds⟩ = { y with way := y.way.eraseIdx i }) := Lib.hid (by
                    rw [HWD.out]
                    unfold Sys.wayD
                    rw [if_neg (by decide), if_neg (by decide)])
                  clear hWx hbx hxb kb0 kb1 kb2 kb3 kb4 kb5 hbl gw gwl gel gelx g0 g1 d0 d1 d3
                  have d0 := dx
                  clear dx
                  have hiN : i + 1 ≤ N := by have := hiI; omega
                  obtain ⟨A8, c9, xs, hev, hrd, hone, hnext⟩ := Rn.erase HL5.out HB5.out i
                  obtain ⟨A8', c9', hev', hc91, hc92⟩ := HL5.out.way.shape
                  rw [HN5.out] at hev hrd hnext hev' hc91
                  rw [hev'] at hev
                  injection hev with hev1 hev2 hev3
                  subst hev1; subst hev3
                  obtain ⟨b, o, rfl, hbo, -⟩ := hrd.2 (by omega)
                  have gw := HL5.out.wblk.cell 0
                  have gwl := HL5.out.wblk.lt
                  have gwf := HL5.out.wblk.free 0
                  simp only [List.getElem?_toArray, List.getElem?_cons_zero] at gw
                  rw [hev', show l5.wb = (w.heap.size + 1 + 1 + 1 + 1) from HAL5.out.2.1] at gw
                  rw [show l5.wb = (w.heap.size + 1 + 1 + 1 + 1) from HAL5.out.2.1] at gwl gwf
                  have HRD5 := Lib.hid hrd
                  have HONE := Lib.hid hone
                  have HNX := Lib.hid hnext
                  have hW64 : N ≤ 64 := HW64.out
                  have hic : i ≤ c9' := by omega
                  have hiN2 : i ≤ N := by omega
                  have hcm : c9' ≤ 9223372036854775807 := by unfold maxLen at hc92; exact hc92
                  have hwi : IntKind.i64.wrap ((i : Int) + 1) = (i : Int) + 1 := IntWalk.i64_in _ (by omega)
                  obtain ⟨A2, hrun, hrow2⟩ := Rn.cut HL5.out HN5.out hev' (i + 1) hiN
                  have hcut : ∀ W, (Instr.slice 165 (.slice (some ⟨b, o, none⟩) N c9') (some (.int .i64 ((i : Int) + 1))) none none).run Try.prog W = .ok (.slice A2 (N - (i + 1)) (c9' - (i + 1))) W := fun W => by simpa using hrun W
                  have HCUTR := Lib.hid hrow2
                  clear hev' hrd hone hnext hev2 hc91 hc92 hrun hrow2 hbo
                  go_wp2_with fail
                  refine wp_region_walk (fun w' => Below W5.heap.size W5 w') [[], [], [], [(108, 2)], [(107, 1), (109, 3)], [(106, 0), (110, 4)], [], [], [(113, 7)], [(114, 8)], [(112, 6), (115, 9)]]
                    [(106, 0), (107, 1), (108, 2), (109, 3), (110, 4), (111, 5), (112, 6), (113, 7), (114, 8), (115, 9), (116, 10)] (by kernel_rfl) (by kernel_rfl) (by kernel_rfl) ((Below.refl _ W5).drew) ?_
                  refine Flow.st_step (⟨fun v W => ∃ g, v = .slice (some ⟨g, 0, none⟩) 0 0 ∧ Row W W5.heap.size 167 6 (.slice (some ⟨g, 0, none⟩) 0 0) 0 [], fun _ _ _ h hg => by obtain ⟨g, h1, h2⟩ := h; exact ⟨g, h1, h2.grow hg⟩⟩) ?_ ?_
                  · go_light
                    intro w1 hC1
                    simp only [Flow.fill, Flow.after, Flow.at_, List.nil_append, List.cons_append, List.getD_cons_zero, List.getD_cons_succ, det, forall_eq, List.setIfInBounds_toArray, List.set_cons_zero, List.set_cons_succ, List.drop, List.length]
                    have hb1 := hC1
                    have j0 := (hb1.cell (p := ⟨(w.heap.size + 1 + 1 + 1 + 1), 0, none⟩) gwl).trans gw; have j2 := (hb1.cell (p := ⟨wr.heap.size, 2, none⟩) dl).trans d2; have jl1 := Nat.lt_of_lt_of_le gwl hb1.size; have jl2 := Nat.lt_of_lt_of_le dl hb1.size
                    go_wp2
                    exact Flow.post_st (hb1.alloc hb1.size _) (Grow.alloc _ _) rfl rfl ⟨_, rfl, row_lit0 _ _ _ _ hb1.size⟩
                  apply Flow.det_step
                  · go_light
                    intro w1 hC1
                    simp only [Flow.fill, Flow.after, Flow.at_, List.nil_append, List.cons_append, List.getD_cons_zero, List.getD_cons_succ, det, forall_eq, List.setIfInBounds_toArray, List.set_cons_zero, List.set_cons_succ, List.drop, List.length]
                    have hb1 := hC1
                    have j0 := (hb1.cell (p := ⟨(w.heap.size + 1 + 1 + 1 + 1), 0, none⟩) gwl).trans gw; have j2 := (hb1.cell (p := ⟨wr.heap.size, 2, none⟩) dl).trans d2; have jl1 := Nat.lt_of_lt_of_le gwl hb1.size; have jl2 := Nat.lt_of_lt_of_le dl hb1.size
                    go_wp2
                    exact Flow.post_det hb1 (Grow.refl _) rfl rfl
                  apply Flow.det_step
                  · go_light
                    intro w1 hC1
                    simp only [Flow.fill, Flow.after, Flow.at_, List.nil_append, List.cons_append, List.getD_cons_zero, List.getD_cons_succ, det, forall_eq, List.setIfInBounds_toArray, List.set_cons_zero, List.set_cons_succ, List.drop, List.length]
                    have hb1 := hC1
                    have j0 := (hb1.cell (p := ⟨(w.heap.size + 1 + 1 + 1 + 1), 0, none⟩) gwl).trans gw; have j2 := (hb1.cell (p := ⟨wr.heap.size, 2, none⟩) dl).trans d2; have jl1 := Nat.lt_of_lt_of_le gwl hb1.size; have jl2 := Nat.lt_of_lt_of_le dl hb1.size
                    go_wp2
                    exact Flow.post_det hb1 (Grow.refl _) rfl rfl
                  apply Flow.det_step
                  · go_light
                    intro w1 hC1
                    simp only [Flow.fill, Flow.after, Flow.at_, List.nil_append, List.cons_append, List.getD_cons_zero, List.getD_cons_succ, det, forall_eq, List.setIfInBounds_toArray, List.set_cons_zero, List.set_cons_succ, List.drop, List.length]
                    have hb1 := hC1
                    have j0 := (hb1.cell (p := ⟨(w.heap.size + 1 + 1 + 1 + 1), 0, none⟩) gwl).trans gw; have j2 := (hb1.cell (p := ⟨wr.heap.size, 2, none⟩) dl).trans d2; have jl1 := Nat.lt_of_lt_of_le gwl hb1.size; have jl2 := Nat.lt_of_lt_of_le dl hb1.size
                    go_wp2
                    exact Flow.post_det hb1 (Grow.refl _) rfl rfl
                  apply Flow.det_step
                  · go_light
                    intro w1 hC1
                    simp only [Flow.fill, Flow.after, Flow.at_, List.nil_append, List.cons_append, List.getD_cons_zero, List.getD_cons_succ, det, forall_eq, List.setIfInBounds_toArray, List.set_cons_zero, List.set_cons_succ, List.drop, List.length]
                    have hb1 := hC1
                    have j0 := (hb1.cell (p := ⟨(w.heap.size + 1 + 1 + 1 + 1), 0, none⟩) gwl).trans gw; have j2 := (hb1.cell (p := ⟨wr.heap.size, 2, none⟩) dl).trans d2; have jl1 := Nat.lt_of_lt_of_le gwl hb1.size; have jl2 := Nat.lt_of_lt_of_le dl hb1.size
                    go_wp2
                    exact Flow.post_det hb1 (Grow.refl _) rfl rfl
                  refine Flow.st_step (⟨fun v W => ∃ A c, v = .slice A i c ∧ Row W W5.heap.size 167 6 (.slice A i c) i (xs.take (i * 6)), fun _ _ _ h hg => by obtain ⟨A, c, h1, h2⟩ := h; exact ⟨A, c, h1, h2.grow hg⟩⟩) ?_ ?_
                  · go_light
                    intro w1 hC1
                    simp only [Flow.fill, Flow.after, Flow.at_, List.nil_append, List.cons_append, List.getD_cons_zero, List.getD_cons_succ, det, forall_eq, List.setIfInBounds_toArray, List.set_cons_zero, List.set_cons_succ, List.drop, List.length]
                    rintro _ ⟨g0, rfl, hr0⟩
                    have hb1 := hC1
                    have j0 := (hb1.cell (p := ⟨(w.heap.size + 1 + 1 + 1 + 1), 0, none⟩) gwl).trans gw; have j2 := (hb1.cell (p := ⟨wr.heap.size, 2, none⟩) dl).trans d2; have jl1 := Nat.lt_of_lt_of_le gwl hb1.size; have jl2 := Nat.lt_of_lt_of_le dl hb1.size
                    refine wpList_append_litS _ rfl (.tmp 106) (.tmp 110) 165 rfl W5.heap.size 167 i0 (.agg #[.int .i64 0, .int .u32 0, .int .u32 0, .int .i64 0, .int .i64 0, .slice none 0 0]) 6 56 Try.underlying165 hinf hz0 hz1 hz2 rfl (by decide) g0 rfl hr0 W5.heap.size (some ⟨b, o, none⟩) i c9' (xs.take (i * 6)) rfl ((HRD5.out.take (k := i) (by omega)).below' hb1 (Nat.le_refl _)) (by unfold maxLen; omega) (by omega) hb1.size ?_
                    intro A' c' w' hrow hgr
                    exact Flow.post_st (hb1.trans (hgr.mono hb1.size)) hgr rfl rfl ⟨A', c', rfl, hrow⟩
                  apply Flow.det_step
                  · go_light
                    intro w1 hC1
                    simp only [Flow.fill, Flow.after, Flow.at_, List.nil_append, List.cons_append, List.getD_cons_zero, List.getD_cons_succ, det, forall_eq, List.setIfInBounds_toArray, List.set_cons_zero, List.set_cons_succ, List.drop, List.length]
                    have hb1 := hC1
                    have j0 := (hb1.cell (p := ⟨(w.heap.size + 1 + 1 + 1 + 1), 0, none⟩) gwl).trans gw; have j2 := (hb1.cell (p := ⟨wr.heap.size, 2, none⟩) dl).trans d2; have jl1 := Nat.lt_of_lt_of_le gwl hb1.size; have jl2 := Nat.lt_of_lt_of_le dl hb1.size
                    go_wp2
                    exact Flow.post_det hb1 (Grow.refl _) rfl rfl
                  apply Flow.det_step
                  · go_light
                    intro w1 hC1
                    simp only [Flow.fill, Flow.after, Flow.at_, List.nil_append, List.cons_append, List.getD_cons_zero, List.getD_cons_succ, det, forall_eq, List.setIfInBounds_toArray, List.set_cons_zero, List.set_cons_succ, List.drop, List.length]
                    have hb1 := hC1
                    have j0 := (hb1.cell (p := ⟨(w.heap.size + 1 + 1 + 1 + 1), 0, none⟩) gwl).trans gw; have j2 := (hb1.cell (p := ⟨wr.heap.size, 2, none⟩) dl).trans d2; have jl1 := Nat.lt_of_lt_of_le gwl hb1.size; have jl2 := Nat.lt_of_lt_of_le dl hb1.size
                    go_wp2
                    exact Flow.post_det hb1 (Grow.refl _) rfl rfl
                  apply Flow.det_step
                  · go_light
                    intro w1 hC1
                    simp only [Flow.fill, Flow.after, Flow.at_, List.nil_append, List.cons_append, List.getD_cons_zero, List.getD_cons_succ, det, forall_eq, List.setIfInBounds_toArray, List.set_cons_zero, List.set_cons_succ, List.drop, List.length]
                    have hb1 := hC1
                    have j0 := (hb1.cell (p := ⟨(w.heap.size + 1 + 1 + 1 + 1), 0, none⟩) gwl).trans gw; have j2 := (hb1.cell (p := ⟨wr.heap.size, 2, none⟩) dl).trans d2; have jl1 := Nat.lt_of_lt_of_le gwl hb1.size; have jl2 := Nat.lt_of_lt_of_le dl hb1.size
                    go_wp2
                    exact Flow.post_det hb1 (Grow.refl _) rfl rfl
                  apply Flow.det_step
                  · go_light
                    intro w1 hC1
                    simp only [Flow.fill, Flow.after, Flow.at_, List.nil_append, List.cons_append, List.getD_cons_zero, List.getD_cons_succ, det, forall_eq, List.setIfInBounds_toArray, List.set_cons_zero, List.set_cons_succ, List.drop, List.length]
                    have hb1 := hC1
                    have j0 := (hb1.cell (p := ⟨(w.heap.size + 1 + 1 + 1 + 1), 0, none⟩) gwl).trans gw; have j2 := (hb1.cell (p := ⟨wr.heap.size, 2, none⟩) dl).trans d2; have jl1 := Nat.lt_of_lt_of_le gwl hb1.size; have jl2 := Nat.lt_of_lt_of_le dl hb1.size
                    go_wp2
                    exact Flow.post_det hb1 (Grow.refl _) rfl rfl
                  refine Flow.st_step (det (.slice A2 (N - (i + 1)) (c9' - (i + 1)))) ?_ ?_
                  · go_light
                    intro w1 hC1
                    simp only [Flow.fill, Flow.after, Flow.at_, List.nil_append, List.cons_append, List.getD_cons_zero, List.getD_cons_succ, det, forall_eq, List.setIfInBounds_toArray, List.set_cons_zero, List.set_cons_succ, List.drop, List.length]
                    have hb1 := hC1
                    have j0 := (hb1.cell (p := ⟨(w.heap.size + 1 + 1 + 1 + 1), 0, none⟩) gwl).trans gw; have j2 := (hb1.cell (p := ⟨wr.heap.size, 2, none⟩) dl).trans d2; have jl1 := Nat.lt_of_lt_of_le gwl hb1.size; have jl2 := Nat.lt_of_lt_of_le dl hb1.size
                    refine wpList_slice_lo rfl 165 167 (.tmp 112) (.tmp 115) rfl Try.underlying165 (.slice (some ⟨b, o, none⟩) N c9') (.int .i64 ((i : Int) + 1)) rfl rfl (.slice A2 (N - (i + 1)) (c9' - (i + 1))) (hcut _) ?_
                    exact Flow.post_det hb1 (Grow.refl _) rfl rfl
                  intro w1 hC1
                  simp only [Flow.fill, Flow.after, Flow.at_, List.nil_append, List.cons_append, List.getD_cons_zero, List.getD_cons_succ, det, forall_eq, List.setIfInBounds_toArray, List.set_cons_zero, List.set_cons_succ, List.drop, List.length]
                  rintro _ - _ ⟨A1, c1, rfl, hr1⟩
                  have hb1 := hC1
                  have HB1 := Lib.hid hb1
                  have HR1 := Lib.hid hr1
                  have j0 := (hb1.cell (p := ⟨(w.heap.size + 1 + 1 + 1 + 1), 0, none⟩) gwl).trans gw
                  have jl1 := Nat.lt_of_lt_of_le gwl hb1.size
                  have HXS := Lib.hid (HCUTR.out xs HRD5.out w1 hb1)
                  clear hb1 hr1 d0 d2 dl
                  refine wpList_append_row _ rfl (.tmp 111) (.tmp 116) 165 rfl W5.heap.size 167 i0 (.agg #[.int .i64 0, .int .u32 0, .int .u32 0, .int .i64 0, .int .i64 0, .slice none 0 0]) 6 56 Try.underlying165 hinf hz0 hz1 hz2 rfl (by decide) (.slice A1 i c1) i (xs.take (i * 6)) rfl HR1.out w1.heap.size A2 (N - (i + 1)) (c9' - (i + 1)) (xs.drop ((i + 1) * 6)) rfl HXS.out (fun u hu => HONE.out u (List.mem_of_mem_drop hu)) (by unfold maxLen; omega) (by omega) HB1.out.size ?_
                  intro A9 c10 w9 hr9 hg9 ho9
                  have hb9 : Below W5.heap.size W5 w9 := HB1.out.grown hg9 HB1.out.size (fun k hk => (HR1.out.lt k hk).1)
                  have hlen9 : i + (N - (i + 1)) = N - 1 := by omega
                  rw [hlen9] at hr9
                  have q0 := (hb9.cell (p := ⟨(w.heap.size + 1 + 1 + 1 + 1), 0, none⟩) gwl).trans gw
                  have qf := ((HL5.out.grow hb9).wblk).free 0
                  rw [show l5.wb = (w.heap.size + 1 + 1 + 1 + 1) from HAL5.out.2.1] at qf
                  have ql := Nat.lt_of_lt_of_le gwl hb9.size
                  have HN9 := Lib.hid (HNX.out w9 (.slice A9 (N - 1) c10) hb9 (fun k hk => (hr9.lt k hk).1) hr9 (by omega))
                  have HF9 := Lib.hid (fr_trans HF5.out (fr_below hb9))
                  have HP : Hid (RnQ W3 (w.heap.size + 1) (ray0 (w.heap.size + 1 + 1 + 1) (w.heap.size + 1 + 1 + 1 + 1) (w.heap.size + 1) (w.heap.size + 1 + 1)) (y.deed ⟨5, ee, i, ds⟩) (w9.setCell ⟨(w.heap.size + 1 + 1 + 1 + 1), 0, none⟩ (.slice A9 (N - 1) c10))) := Lib.hid (by
                    rw [HEQ.out]
                    have h9 := HN9.out
                    refine ⟨{ l5 with v := .slice A9 (N - 1) c10, z := l5.z }, HAL5.out, ?_, ?_⟩
                    · have e5 : l5.wb = (w.heap.size + 1 + 1 + 1 + 1) := HAL5.out.2.1
                      rw [← e5]
                      exact h9
                    · exact HF9.out.setCell (p := ⟨(w.heap.size + 1 + 1 + 1 + 1), 0, none⟩) (fun _ => by have := HWLOW.out; omega) _)
                  rw [hlen9]
                  clear hr9 hg9 ho9 hb9 gw gwl gwf j0 jl1
                  go_wp2
                  go_meet
                  exact HP
            · cases th with
              | false =>
                have hx := of_decide_eq_false HTH.out
                have HP : Hid (RnQ W3 (w.heap.size + 1) (ray0 (w.heap.size + 1 + 1 + 1) (w.heap.size + 1 + 1 + 1 + 1) (w.heap.size + 1) (w.heap.size + 1 + 1)) (y.deed ⟨6, ee, nn, ds⟩) Wd) := Lib.hid (by rw [deed_else (by dsimp only; omega) (by dsimp only; rw [HN.out]; omega) (by dsimp only; omega)]; exact HQD.out)
                clear hx
                go_wp2
                go_meet
                exact HP
              | true =>
                have hx := of_decide_eq_true HTH.out
                obtain ⟨i, rfl⟩ : ∃ i : Nat, nn = i := ⟨nn.toNat, by omega⟩
                obtain ⟨p, hp⟩ : ∃ p, y.way[i]? = some p := ⟨_, List.getElem?_eq_getElem (show i < y.way.length by rw [HN.out]; omega)⟩
                have HWD := Lib.hid (deed_rw y 6 ee i ds (by omega) p hp)
                have hiI : (i : Int) < N := hx.2
                have hi0 : (0 : Int) ≤ (i : Int) := hx.1
                have HW64 : Hid (N ≤ 64) := Lib.hid (by rw [← HN.out]; exact HOK.out.len)
                obtain ⟨r, b, o, c8, ev, hc1, hc2, hrt, hrs, hrf, hbl, hlt2, kb0, kb1, kb2, kb3, kb4, kb5⟩ := HLD.out.letter hp
                rw [HN.out, HV.out] at ev
                injection ev with ev1 ev2 ev3
                subst ev1; subst ev3
                have HRF := Lib.hid hrf
                have HRT := Lib.hid hrt
                have HRS := Lib.hid hrs
                clear hx hrf hrt hrs hc1 hc2 ev2 hlt2 hp
                by_cases hroom : N < 64
                · have hbn : Below Wd.heap.size Wd (Wd.alloc (.cells #[.int .i64 r.who, .int .u32 r.sg.seq, .int .u32 r.sg.ack, .int .i64 r.sg.flags, .int .i64 r.sg.window, .slice r.A r.sg.dat.length r.c] 167)).drew := ((Below.refl _ _).alloc (Nat.le_refl _) _).drew
                  obtain ⟨xs, hrow, hnext⟩ := Rn.moreGo HLD.out (W1 := (Wd.alloc (.cells #[.int .i64 r.who, .int .u32 r.sg.seq, .int .u32 r.sg.ack, .int .i64 r.sg.flags, .int .i64 r.sg.window, .slice r.A r.sg.dat.length r.c] 167)).drew) (by rw [HN.out]; exact HV.out) hbn r (z' := l1.z) (fun _ h => h) (fun _ h => .inl h) (fun k9 hk9 => Nat.lt_of_lt_of_le (HLD.out.bel 5 _ rfl k9 hk9) hbn.size) (HRF.out.fr (Fr.of_grow hbn) (fun _ _ e => e) (fun _ e => e))
                  rw [HN.out] at hrow hnext
                  have HROW := Lib.hid hrow
                  have HNX := Lib.hid hnext
                  have HEQ : Hid (y.deed ⟨6, ee, i, ds⟩ = { y with way := y.way ++ [(r.who, r.sg)] }) := Lib.hid (by
                    rw [HWD.out]
                    unfold Sys.wayD
                    rw [if_pos rfl, if_pos (by rw [HN.out]; exact hroom), HRT.out, HRS.out])
                  have t2 : (N : Int) < 64 := by omega
                  have t3 := decide_eq_true t2
                  have HRDS : Hid (Reads (Wd.alloc (.cells #[.int .i64 r.who, .int .u32 r.sg.seq, .int .u32 r.sg.ack, .int .i64 r.sg.flags, .int .i64 r.sg.window, .slice r.A r.sg.dat.length r.c] 167)).drew (Wd.heap.size + 1) 6 (some ⟨Wd.heap.size, 0, none⟩) 1 [.int .i64 r.who, .int .u32 r.sg.seq, .int .u32 r.sg.ack, .int .i64 r.sg.flags, .int .i64 r.sg.window, .slice r.A r.sg.dat.length r.c]) := Lib.hid (reads_new2 Wd #[.int .i64 r.who, .int .u32 r.sg.seq, .int .u32 r.sg.ack, .int .i64 r.sg.flags, .int .i64 r.sg.window, .slice r.A r.sg.dat.length r.c] 167 6 rfl).drew
                  have HSC := Lib.hid (fun w9 (hg : (Wd.alloc (.cells #[.int .i64 r.who, .int .u32 r.sg.seq, .int .u32 r.sg.ack, .int .i64 r.sg.flags, .int .i64 r.sg.window, .slice r.A r.sg.dat.length r.c] 167)).drew.grownBy w9 (Value.slice (some ⟨b, o, none⟩) N c7).ownBlock) => rend_cell (o := .cells #[.int .i64 r.who, .int .u32 r.sg.seq, .int .u32 r.sg.ack, .int .i64 r.sg.flags, .int .i64 r.sg.window, .slice r.A r.sg.dat.length r.c] 167) (Below.refl _ Wd) (grown_drew hg) HLD.out HWB.out HV.out)
                  have HBN := Lib.hid hbn
                  have HONE : Hid (∀ u ∈ ([.int .i64 r.who, .int .u32 r.sg.seq, .int .u32 r.sg.ack, .int .i64 r.sg.flags, .int .i64 r.sg.window, .slice r.A r.sg.dat.length r.c] : List Value), u.oneCell' = true) := Lib.hid (by simp only [List.forall_mem_cons]; exact ⟨rfl, rfl, rfl, rfl, rfl, rfl, fun _ h => by cases h⟩)
                  have hBW : w.heap.size + 1 ≤ (Wd.alloc (.cells #[.int .i64 r.who, .int .u32 r.sg.seq, .int .u32 r.sg.ack, .int .i64 r.sg.flags, .int .i64 r.sg.window, .slice r.A r.sg.dat.length r.c] 167)).drew.heap.size := by have := HBN.out.size; have := HBD.out; omega
                  have HBWN := Lib.hid hBW
                  clear hBW
                  clear hrow hnext hroom hbn
                  go_wp2_with fail
                  go_region_law (refine step_append_row rfl (.tmp 126) (.tmp 132) 165 rfl (w.heap.size + 1) 167 i0 (.agg #[.int .i64 0, .int .u32 0, .int .u32 0, .int .i64 0, .int .i64 0, .slice none 0 0]) 6 56 Try.underlying165 hinf hz0 hz1 hz2 rfl (by decide) (.slice (some ⟨b, o, none⟩) N c7) N xs (by simp [Act.eval, Act.put]) HROW.out (Wd.heap.size + 1) (some ⟨Wd.heap.size, 0, none⟩) 1 1 [.int .i64 r.who, .int .u32 r.sg.seq, .int .u32 r.sg.ack, .int .i64 r.sg.flags, .int .i64 r.sg.window, .slice r.A r.sg.dat.length r.c] (by simp [Act.eval, Act.put]) HRDS.out HONE.out (by unfold maxLen; omega) (by omega) HBWN.out ?_; intro A9 c9 w9 hr9 hg9 ho9; obtain ⟨q10, qf10, ql10⟩ := HSC.out w9 hg9; have HN9 := Lib.hid (HNX.out w9 A9 c9 hr9 hg9 (by simpa using ho9)); clear hr9 hg9 ho9)
                  all_goals
                    have HP : Hid (RnQ W3 (w.heap.size + 1) (ray0 (w.heap.size + 1 + 1 + 1) (w.heap.size + 1 + 1 + 1 + 1) (w.heap.size + 1) (w.heap.size + 1 + 1)) (y.deed ⟨6, ee, i, ds⟩) (w9.setCell ⟨(w.heap.size + 1 + 1 + 1 + 1), 0, none⟩ (.slice A9 (N + 1) c9))) := Lib.hid (by
                      rw [HEQ.out]
                      have h9 := HN9.out
                      rw [HWB.out] at h9
                      refine ⟨{ l1 with v := .slice A9 (N + 1) c9, z := l1.z }, HAL.out, ?_, fr_trans HFD2.out (h9.2.mono (fun k9 _ e9 => ?_))⟩
                      · have := h9.1
                        rw [← HWB.out] at this ⊢
                        exact this
                      · rcases e9 with e9 | e9
                        · have h7 : (Value.slice (some ⟨b, o, none⟩) N c7).ownBlock = some k9 := by rw [← HV.out]; exact e9
                          exact (HROW.out.lt k9 h7).1
                        · omega)
                    go_wp2
                    go_meet
                    exact HP
                · have HEQ : Hid (y.deed ⟨6, ee, i, ds⟩ = y) := Lib.hid (by
                    rw [HWD.out]
                    unfold Sys.wayD
                    rw [if_pos rfl, if_neg (by rw [HN.out]; exact hroom)])
                  have HP : Hid (RnQ W3 (w.heap.size + 1) (ray0 (w.heap.size + 1 + 1 + 1) (w.heap.size + 1 + 1 + 1 + 1) (w.heap.size + 1) (w.heap.size + 1 + 1)) (y.deed ⟨6, ee, i, ds⟩) Wd) := Lib.hid (by rw [HEQ.out]; exact HQD.out)
                  have t2 : ¬ (N : Int) < 64 := by omega
                  have t3 := decide_eq_false t2
                  clear hroom
                  go_wp2
                  go_meet
                  exact HP
            · as_aux_lemma =>
                have HTK : Hid (y.deed ⟨7, ee, nn, ds⟩ = (y.onE 0 Sm.tickedS).onE 1 Sm.tickedS) := Lib.hid (deed_tick rfl)
                have HC := Lib.hid (r_ticked HLD.out HOK.out (e := 0) (by omega))
                rw [HG0.out] at HC
                go_wp2_with fail
                refine HC.out.mono ?_
                rintro e7 w7 ⟨rfl, l7, hal7, hm7, hf7⟩
                have HF7 := Lib.hid (fr_trans HFD2.out hf7)
                have HAL7 : Hid (Alike (ray0 (w.heap.size + 1 + 1 + 1) (w.heap.size + 1 + 1 + 1 + 1) (w.heap.size + 1) (w.heap.size + 1 + 1)) l7) := Lib.hid ⟨hal7.1.trans HAL.out.1, hal7.2.1.trans HAL.out.2.1, hal7.2.2.trans HAL.out.2.2⟩
                have HOK7 : Hid ((y.onE 0 Sm.tickedS).Ok (2 * k + 1 + 1)) := Lib.hid (HOK.out.onE 0 (fun s hs => hs.ticked))
                have HC7 := Lib.hid (r_ticked hm7 HOK7.out (e := 1) (by omega))
                have hq7 : l7.q 1 = w.heap.size + 1 + 1 := by rw [HAL7.out.2.2]; rfl
                rw [hq7] at HC7
                have zg1 := hm7.eblk.cell 1
                have zl1 := hm7.eblk.lt
                dsimp only [Ray.ecells] at zg1
                simp only [List.getElem?_toArray, List.getElem?_cons_succ, List.getElem?_cons_zero] at zg1
                rw [show l7.eb = (w.heap.size + 1 + 1 + 1) from HAL7.out.1, hq7] at zg1
                rw [show l7.eb = (w.heap.size + 1 + 1 + 1) from HAL7.out.1] at zl1
                clear hm7 hf7 hal7 hq7 HC g0 g1 gel gw gwl d0 d1 d2 d3 dl
                go_wp2_with fail
                refine HC7.out.mono ?_
                rintro e8 w8 ⟨rfl, hq8⟩
                have HP : Hid (RnQ W3 (w.heap.size + 1) (ray0 (w.heap.size + 1 + 1 + 1) (w.heap.size + 1 + 1 + 1 + 1) (w.heap.size + 1) (w.heap.size + 1 + 1)) (y.deed ⟨7, ee, nn, ds⟩) w8) := Lib.hid (by rw [HTK.out]; exact hq8.trans HAL7.out HF7.out)
                clear hq8 HC7 zg1 zl1
                go_wp2
                go_meet
                exact HP
            · as_aux_lemma =>
                have HP : Hid (RnQ W3 (w.heap.size + 1) (ray0 (w.heap.size + 1 + 1 + 1) (w.heap.size + 1 + 1 + 1 + 1) (w.heap.size + 1) (w.heap.size + 1 + 1)) (y.deed ⟨kd, ee, nn, ds⟩) Wd) := Lib.hid (by rw [deed_else (by dsimp only; omega) (by dsimp only; rw [HN.out]; omega) (by dsimp only; omega)]; exact HQD.out)
                have x1 : (kd == 1) = false := by simp; omega
                have x2 : (kd == 2) = false := by simp; omega
                have x3 : (kd == 3) = false := by simp; omega
                have x4 : (kd == 4) = false := by simp; omega
                have x5 : (kd == 5) = false := by simp; omega
                have x6 : (kd == 6) = false := by simp; omega
                have x7 : (kd == 7) = false := by simp; omega
                clear hx
                go_wp2
                go_meet
                exact HP
          case rest =>
            have HQ4 := hcut
            rename World => W4
            have HQ4X := HQ4.out
            obtain ⟨l4, hal4, hm4, hf4⟩ := HQ4X
            have HS4 := Lib.hid (rsend_any (m := 2 * k + 1 + 1) hm4 HDD.out (by have := HK.out; omega) (Nat.le_trans (by have := HS3.out; omega) hf4.size))
            rw [show l4.eb = (w.heap.size + 1 + 1 + 1) from hal4.1, show l4.wb = (w.heap.size + 1 + 1 + 1 + 1) from hal4.2.1] at HS4
            have HTR := Lib.hid (fun w9 (h9 : RnQ W4 (w.heap.size + 1) l4 ((y.deed ⟨kd, ee, nn, ds⟩).send) w9) => h9.trans hal4 hf4)
            clear hm4 hf4 hal4 hcut d0 d1 d2 d3 dl g0 g1 gel gw gwl
            go_wp2_with fail
            refine HS4.out.mono ?_
            rintro e9 w9 ⟨rfl, hq9⟩
            have HQ9 : Hid (RnQ W3 (w.heap.size + 1) (ray0 (w.heap.size + 1 + 1 + 1) (w.heap.size + 1 + 1 + 1 + 1) (w.heap.size + 1) (w.heap.size + 1 + 1)) (Sys.runK a b (ps.map De.dd) (k + 1)) w9) := Lib.hid (by rw [HNX.out]; exact HTR.out w9 hq9)
            clear hq9
            go_wp2
            go_roundw
            case rel => exact ⟨k + 1, by omega, by go_num, HQ9⟩
            case measure => simp [intOf]; omega
    · obtain rfl : k = n := by omega
      have HQ2 := HQ.out
      obtain ⟨l1, hal, hm1, hf1⟩ := HQ2
      obtain ⟨W6, hW6⟩ : ∃ W6, W6 = wr := ⟨_, rfl⟩
      subst hW6
      have HOK := Lib.hid (Sys.runK_ok HA.out HB.out HBY.out k (by rw [HLEN.out]; exact Nat.le_refl _))
      generalize Sys.runK a b (ps.map De.dd) k = y at *
      have hq0' : l1.q 0 = w.heap.size + 1 := by rw [hal.2.2]; rfl
      have hq1' : l1.q 1 = w.heap.size + 1 + 1 := by rw [hal.2.2]; rfl
      obtain ⟨O, hO⟩ : ∃ O, O = W6.heap.size := ⟨_, rfl⟩
      obtain ⟨Wo, hWo⟩ : ∃ Wo, Wo = W6.alloc (.cells toldC 101) := ⟨_, rfl⟩
      have hbo : Below W6.heap.size W6 Wo := by rw [hWo]; exact (Below.refl _ _).alloc (Nat.le_refl _) _
      have hob : Blk Wo O toldC 101 := by rw [hWo, hO]; exact Blk.new _ _ _
      have hmo := hm1.grow hbo
      have hq0 := (hmo.st 0 (by omega))
      have hq1 := (hmo.st 1 (by omega))
      rw [hq0'] at hq0
      rw [hq1'] at hq1
      obtain ⟨As0, cs0, Ag0, cg0, es0, eg0, u1, u2, u3, u4⟩ := hq0.look
      obtain ⟨As1, cs1, Ag1, cg1, es1, eg1, v1, v2, v3, v4⟩ := hq1.look
      have u3 : y.a.got.length ≤ cg0 := u3
      have v3 : y.b.got.length ≤ cg1 := v3
      have u4 : cg0 ≤ 9223372036854775807 := u4
      have r0 := HOK.out.a.rd
      have r1 := HOK.out.b.rd
      have HB0 := Lib.hid (Ob2.blk hq0)
      have HB1 := Lib.hid (Ob2.blk hq1)
      have hT6 : Blk Wo w.heap.size toldC 101 := (HT3.out.fr hf1 (by omega)).fr (Fr.of_grow hbo) id
      have HT6 := Lib.hid hT6
      have hOT : O ≠ w.heap.size := by have := (HT3.out.fr hf1 (by omega)).lt; omega
      have hO0 : w.heap.size + 1 < O := by rw [hO]; have := (Ob2.blk (hm1.st 0 (by omega))).lt; omega
      have hO1 : w.heap.size + 1 + 1 < O := by rw [hO]; have := (Ob2.blk (hm1.st 1 (by omega))).lt; omega
      have HBW6 : Hid (Below w.heap.size w Wo) := Lib.hid ((HB3.out.trans (hf1.below (by have := HS3.out; omega) (fun k hk => by omega))).trans (hbo.mono (by have := hf1.size; have := HS3.out; omega)))
      have HFIN := Lib.hid (fun W9 W10 (h9 : Fr (fun k => k = O) Wo W9) (h10 : Fr (fun k => k = w.heap.size) W9 W10) => (show RunP w y (.returned (.tuple #[.agg #[.slice As0 y.a.said.length cs0, .slice Ag0 y.a.rd cg0, .bool y.a.fin, .int .i64 y.a.st, .slice As1 y.b.said.length cs1, .slice Ag1 y.b.rd cg1, .bool y.b.fin, .int .i64 y.b.st], .int .i64 0])) W10 from by
        have h7 : ∀ {v : Value} {nn : Nat} {xs : List Value}, Row Wo (w.heap.size + 1) 5 1 v nn xs → (∀ k, v.ownBlock = some k → k < O) → Row W10 w.heap.size 5 1 v nn xs := fun hr hlt =>
          (((hr.fr h9 (fun k hk e1 => by have e1 : k = O := e1; have := hlt k hk; omega)).fr h10 (fun k hk e1 => by have := (hr.lt k hk).1; have e1 : k = w.heap.size := e1; omega)).base_le (by omega))
        have hlt : ∀ e, e < 2 → ∀ k, Ob2F (l1.q e) (l1.vo e) (l1.vi e) k → k < O := fun e he k hk => by rw [hO]; exact (Ob2.lt (hm1.st e he) k hk).2
        have hrl : ∀ s : Sm, s.rd ≤ s.got.length → s.rdL.length = s.rd := fun s hs => by unfold Sm.rdL; rw [List.length_take]; omega
        have a0 : Row Wo (w.heap.size + 1) 5 1 (.slice As0 y.a.said.length cs0) y.a.said.length (y.a.said.map (Value.int .u8)) := by have := Ob2.ro hq0; rw [es0] at this; exact this
        have a1 : Row Wo (w.heap.size + 1) 5 1 (.slice As1 y.b.said.length cs1) y.b.said.length (y.b.said.map (Value.int .u8)) := by have := Ob2.ro hq1; rw [es1] at this; exact this
        have b0 : Row Wo (w.heap.size + 1) 5 1 (.slice Ag0 y.a.got.length cg0) y.a.got.length (y.a.got.map (Value.int .u8)) := by have := Ob2.ri hq0; rw [eg0] at this; exact this
        have b1 : Row Wo (w.heap.size + 1) 5 1 (.slice Ag1 y.b.got.length cg1) y.b.got.length (y.b.got.map (Value.int .u8)) := by have := Ob2.ri hq1; rw [eg1] at this; exact this
        have b0' : Row Wo (w.heap.size + 1) 5 1 (.slice Ag0 y.a.rd cg0) y.a.rdL.length (y.a.rdL.map (Value.int .u8)) := by
          have := b0.take (k := y.a.rd) r0
          rw [hrl _ r0]
          unfold Sm.rdL
          rw [List.map_take]
          simpa using this
        have b1' : Row Wo (w.heap.size + 1) 5 1 (.slice Ag1 y.b.rd cg1) y.b.rdL.length (y.b.rdL.map (Value.int .u8)) := by
          have := b1.take (k := y.b.rd) r1
          rw [hrl _ r1]
          unfold Sm.rdL
          rw [List.map_take]
          simpa using this
        refine ⟨fun i => if i = 0 then .slice As0 y.a.said.length cs0 else .slice As1 y.b.said.length cs1, fun i => if i = 0 then .slice Ag0 y.a.rd cg0 else .slice Ag1 y.b.rd cg1, rfl, fun i hi => ?_, fun i hi => ?_, ?_⟩
        · rcases (by omega : i = 0 ∨ i = 1) with rfl | rfl
          · exact h7 a0 (fun k hk => hlt 0 (by omega) k (.inr (.inl (by rw [es0]; exact hk))))
          · exact h7 a1 (fun k hk => hlt 1 (by omega) k (.inr (.inl (by rw [es1]; exact hk))))
        · rcases (by omega : i = 0 ∨ i = 1) with rfl | rfl
          · exact h7 b0' (fun k hk => hlt 0 (by omega) k (.inr (.inr (by rw [eg0]; exact own_len hk))))
          · exact h7 b1' (fun k hk => hlt 1 (by omega) k (.inr (.inr (by rw [eg1]; exact own_len hk))))
        · exact (HBW6.out.trans (h9.below (by have := HBW6.out.size; omega) (fun k hk => by have hk : k = O := hk; omega))).trans (h10.below (by have := HBW6.out.size; have := h9.size; omega) (fun k hk => Nat.le_of_eq hk.symm))))
      have HI0 : Hid (Blk Wo O toldC 101 ∧ Fr (fun k => k = O) Wo Wo) := Lib.hid ⟨hob, Fr.refl _ _⟩
      have g0 := hmo.eblk.cell 0
      have g1 := hmo.eblk.cell 1
      have gel := hmo.eblk.lt
      dsimp only [Ray.ecells] at g0 g1
      simp only [List.getElem?_toArray, List.getElem?_cons_succ, List.getElem?_cons_zero] at g0 g1
      rw [show l1.eb = (w.heap.size + 1 + 1 + 1) from hal.1, hq0'] at g0
      rw [show l1.eb = (w.heap.size + 1 + 1 + 1) from hal.1, hq1'] at g1
      rw [show l1.eb = (w.heap.size + 1 + 1 + 1) from hal.1] at gel
      have hix0 := idx164a (.pointer (some ⟨w.heap.size + 1, 0, none⟩)) (.pointer (some ⟨w.heap.size + 1 + 1, 0, none⟩))
      have hix1 := idx164b (.pointer (some ⟨w.heap.size + 1, 0, none⟩)) (.pointer (some ⟨w.heap.size + 1 + 1, 0, none⟩))
      have HES0 := Lib.hid es0
      have HES1 := Lib.hid es1
      have HEG0 := Lib.hid eg0
      have HEG1 := Lib.hid eg1
      generalize l1.vo 0 = vo0 at *
      generalize l1.vo 1 = vo1 at *
      generalize l1.vi 0 = vi0 at *
      generalize l1.vi 1 = vi1 at *
      have hC0 := HB0.out.cell
      clear hal hm1 hf1 hbo hob hmo hq0 hq1 hq0' hq1' es0 es1 eg0 eg1 hT6 hC0 HQ
      have i0' : (0 : Int) ≤ (y.a.rd : Int) := by omega
      have i1' : (y.a.rd : Int) ≤ (cg0 : Int) := by omega
      have i2' : (0 : Int) ≤ (y.b.rd : Int) := by omega
      have i3' : (y.b.rd : Int) ≤ (cg1 : Int) := by omega
      have n0' : y.a.rd ≤ cg0 := by omega
      have n1' : y.b.rd ≤ cg1 := by omega
      have HO := Lib.hid hO
      go_upto_region 38 with fail
      dsimp only [toldC] at hWo
      rw [← hO, ← hWo]
      clear hO hWo
      go_wp2_with fail
      clear g0 g1 gel
      go_loopw [146] (fun v wr => ∃ z : Int, v = .int .i64 z ∧ ((z = 0 ∧ Hid (Blk wr O toldC 101 ∧ Fr (fun k => k = O) Wo wr)) ∨ (z = 1 ∧ Hid (Blk wr O (toldT As0 y.a.said.length cs0 Ag0 y.a.rd cg0 y.a.fin y.a.st none 0 0 none 0 0 false 0) 101 ∧ Fr (fun k => k = O) Wo wr)) ∨ (z = 2 ∧ Hid (Blk wr O (toldT As0 y.a.said.length cs0 Ag0 y.a.rd cg0 y.a.fin y.a.st As1 y.b.said.length cs1 Ag1 y.b.rd cg1 y.b.fin y.b.st) 101 ∧ Fr (fun k => k = O) Wo wr)))) (fun v _ => 2 - (intOf v).toNat)
      case atStart => exact ⟨0, rfl, .inl ⟨rfl, HI0⟩⟩
      case round =>
        obtain ⟨z, rfl, hz⟩ := hrel
        obtain ⟨W0, hW0⟩ : ∃ W0, W0 = wr := ⟨_, rfl⟩
        subst hW0
        clear HI0
        rcases hz with ⟨rfl, HI⟩ | ⟨rfl, HI⟩ | ⟨rfl, HI⟩
        · obtain ⟨hbk, hfr⟩ := HI.out
          have HFR := Lib.hid hfr
          have HBK := Lib.hid hbk
          have hqb := HB0.out.fr hfr (by have := hO0; omega)
          have q0 := hqb.cell 0
          have q3 := hqb.cell 3
          have q4 := hqb.cell 4
          have q5 := hqb.cell 5
          have q11 := hqb.cell 11
          have ql := hqb.lt
          dsimp only [rcells] at q0 q3 q4 q5 q11
          simp only [List.getElem?_toArray, List.getElem?_cons_succ, List.getElem?_cons_zero] at q0 q3 q4 q5 q11
          rw [HES0.out] at q3
          rw [HEG0.out] at q4
          replace q0 : W0.cell? ⟨w.heap.size + 1, 0, none⟩ = some (.int .i64 y.a.st) := q0
          replace q3 : W0.cell? ⟨w.heap.size + 1, 3, none⟩ = some (.slice As0 y.a.said.length cs0) := q3
          replace q4 : W0.cell? ⟨w.heap.size + 1, 4, none⟩ = some (.slice Ag0 y.a.got.length cg0) := q4
          replace q5 : W0.cell? ⟨w.heap.size + 1, 5, none⟩ = some (.int .i64 y.a.rd) := q5
          replace q11 : W0.cell? ⟨w.heap.size + 1, 11, none⟩ = some (.bool y.a.fin) := q11
          have p0 := hbk.cell 0
          have p1 := hbk.cell 1
          have p2 := hbk.cell 2
          have p3 := hbk.cell 3
          have pf := hbk.free
          have pl := hbk.lt
          dsimp only [toldC, toldT] at p0 p1 p2 p3
          simp only [List.getElem?_toArray, List.getElem?_cons_succ, List.getElem?_cons_zero] at p0 p1 p2 p3
          have hqO : (w.heap.size + 1) ≠ O := by have := hO0; omega
          have hqO2 : O ≠ (w.heap.size + 1) := Ne.symm hqO
          clear hbk hfr hqb
          go_wp2_with fail
          go_region_held3 (fun w' => w'.cell? ⟨w.heap.size + 1, 0, none⟩ = some (.int .i64 y.a.st) ∧ w'.cell? ⟨w.heap.size + 1, 3, none⟩ = some (.slice As0 y.a.said.length cs0) ∧ w'.cell? ⟨w.heap.size + 1, 4, none⟩ = some (.slice Ag0 y.a.got.length cg0) ∧ w'.cell? ⟨w.heap.size + 1, 5, none⟩ = some (.int .i64 y.a.rd) ∧ w'.cell? ⟨w.heap.size + 1, 11, none⟩ = some (.bool y.a.fin))
            (go_keep)
            (fail)
          all_goals
            have HI9 : Hid (Blk ((((W0.setCell ⟨O, 0, none⟩ (.slice As0 y.a.said.length cs0)).setCell ⟨O, 1, none⟩ (.slice Ag0 y.a.rd cg0)).setCell ⟨O, 2, none⟩ (.bool y.a.fin)).setCell ⟨O, 3, none⟩ (.int .i64 y.a.st)).drew O (toldT As0 y.a.said.length cs0 Ag0 y.a.rd cg0 y.a.fin y.a.st none 0 0 none 0 0 false 0) 101 ∧ Fr (fun k => k = O) Wo ((((W0.setCell ⟨O, 0, none⟩ (.slice As0 y.a.said.length cs0)).setCell ⟨O, 1, none⟩ (.slice Ag0 y.a.rd cg0)).setCell ⟨O, 2, none⟩ (.bool y.a.fin)).setCell ⟨O, 3, none⟩ (.int .i64 y.a.st)).drew) := Lib.hid ⟨((((HBK.out.set 0 (.slice As0 y.a.said.length cs0)).set 1 (.slice Ag0 y.a.rd cg0)).set 2 (.bool y.a.fin)).set 3 (.int .i64 y.a.st)).drew, ((((HFR.out.setCell (p := ⟨O, 0, none⟩) (fun _ => rfl) (.slice As0 y.a.said.length cs0)).setCell (p := ⟨O, 1, none⟩) (fun _ => rfl) (.slice Ag0 y.a.rd cg0)).setCell (p := ⟨O, 2, none⟩) (fun _ => rfl) (.bool y.a.fin)).setCell (p := ⟨O, 3, none⟩) (fun _ => rfl) (.int .i64 y.a.st)).drew⟩
            go_wp2
            go_roundw
            case rel => exact ⟨1, rfl, .inr (.inl ⟨rfl, HI9⟩)⟩
            case measure => simp [intOf]
        · obtain ⟨hbk, hfr⟩ := HI.out
          have HFR := Lib.hid hfr
          have HBK := Lib.hid hbk
          have hqb := HB1.out.fr hfr (by have := hO1; omega)
          have q0 := hqb.cell 0
          have q3 := hqb.cell 3
          have q4 := hqb.cell 4
          have q5 := hqb.cell 5
          have q11 := hqb.cell 11
          have ql := hqb.lt
          dsimp only [rcells] at q0 q3 q4 q5 q11
          simp only [List.getElem?_toArray, List.getElem?_cons_succ, List.getElem?_cons_zero] at q0 q3 q4 q5 q11
          rw [HES1.out] at q3
          rw [HEG1.out] at q4
          replace q0 : W0.cell? ⟨w.heap.size + 1 + 1, 0, none⟩ = some (.int .i64 y.b.st) := q0
          replace q3 : W0.cell? ⟨w.heap.size + 1 + 1, 3, none⟩ = some (.slice As1 y.b.said.length cs1) := q3
          replace q4 : W0.cell? ⟨w.heap.size + 1 + 1, 4, none⟩ = some (.slice Ag1 y.b.got.length cg1) := q4
          replace q5 : W0.cell? ⟨w.heap.size + 1 + 1, 5, none⟩ = some (.int .i64 y.b.rd) := q5
          replace q11 : W0.cell? ⟨w.heap.size + 1 + 1, 11, none⟩ = some (.bool y.b.fin) := q11
          have p0 := hbk.cell 4
          have p1 := hbk.cell 5
          have p2 := hbk.cell 6
          have p3 := hbk.cell 7
          have pf := hbk.free
          have pl := hbk.lt
          dsimp only [toldC, toldT] at p0 p1 p2 p3
          simp only [List.getElem?_toArray, List.getElem?_cons_succ, List.getElem?_cons_zero] at p0 p1 p2 p3
          have hqO : (w.heap.size + 1 + 1) ≠ O := by have := hO1; omega
          have hqO2 : O ≠ (w.heap.size + 1 + 1) := Ne.symm hqO
          clear hbk hfr hqb
          go_wp2_with fail
          go_region_held3 (fun w' => w'.cell? ⟨w.heap.size + 1 + 1, 0, none⟩ = some (.int .i64 y.b.st) ∧ w'.cell? ⟨w.heap.size + 1 + 1, 3, none⟩ = some (.slice As1 y.b.said.length cs1) ∧ w'.cell? ⟨w.heap.size + 1 + 1, 4, none⟩ = some (.slice Ag1 y.b.got.length cg1) ∧ w'.cell? ⟨w.heap.size + 1 + 1, 5, none⟩ = some (.int .i64 y.b.rd) ∧ w'.cell? ⟨w.heap.size + 1 + 1, 11, none⟩ = some (.bool y.b.fin))
            (go_keep)
            (fail)
          all_goals
            have HI9 : Hid (Blk ((((W0.setCell ⟨O, 4, none⟩ (.slice As1 y.b.said.length cs1)).setCell ⟨O, 5, none⟩ (.slice Ag1 y.b.rd cg1)).setCell ⟨O, 6, none⟩ (.bool y.b.fin)).setCell ⟨O, 7, none⟩ (.int .i64 y.b.st)).drew O (toldT As0 y.a.said.length cs0 Ag0 y.a.rd cg0 y.a.fin y.a.st As1 y.b.said.length cs1 Ag1 y.b.rd cg1 y.b.fin y.b.st) 101 ∧ Fr (fun k => k = O) Wo ((((W0.setCell ⟨O, 4, none⟩ (.slice As1 y.b.said.length cs1)).setCell ⟨O, 5, none⟩ (.slice Ag1 y.b.rd cg1)).setCell ⟨O, 6, none⟩ (.bool y.b.fin)).setCell ⟨O, 7, none⟩ (.int .i64 y.b.st)).drew) := Lib.hid ⟨((((HBK.out.set 4 (.slice As1 y.b.said.length cs1)).set 5 (.slice Ag1 y.b.rd cg1)).set 6 (.bool y.b.fin)).set 7 (.int .i64 y.b.st)).drew, ((((HFR.out.setCell (p := ⟨O, 4, none⟩) (fun _ => rfl) (.slice As1 y.b.said.length cs1)).setCell (p := ⟨O, 5, none⟩) (fun _ => rfl) (.slice Ag1 y.b.rd cg1)).setCell (p := ⟨O, 6, none⟩) (fun _ => rfl) (.bool y.b.fin)).setCell (p := ⟨O, 7, none⟩) (fun _ => rfl) (.int .i64 y.b.st)).drew⟩
            go_wp2
            go_roundw
            case rel => exact ⟨2, rfl, .inr (.inr ⟨rfl, HI9⟩)⟩
            case measure => simp [intOf]
        · obtain ⟨hbk, hfr⟩ := HI.out
          have hT := HT6.out.fr hfr (Ne.symm hOT)
          have t0 := hT.cell 0
          have t1 := hT.cell 1
          have t2 := hT.cell 2
          have t3 := hT.cell 3
          have t4 := hT.cell 4
          have t5 := hT.cell 5
          have t6 := hT.cell 6
          have t7 := hT.cell 7
          have tf := hT.free
          have tl := hT.lt
          dsimp [toldC] at t0 t1 t2 t3 t4 t5 t6 t7
          have c0 := hbk.cell 0
          have c1 := hbk.cell 1
          have c2 := hbk.cell 2
          have c3 := hbk.cell 3
          have c4 := hbk.cell 4
          have c5 := hbk.cell 5
          have c6 := hbk.cell 6
          have c7 := hbk.cell 7
          have cl := hbk.lt
          dsimp only [toldT] at c0 c1 c2 c3 c4 c5 c6 c7
          simp only [List.getElem?_toArray, List.getElem?_cons_succ, List.getElem?_cons_zero] at c0 c1 c2 c3 c4 c5 c6 c7
          have HF9 := Lib.hid (fun W10 h10 => HFIN.out W0 W10 hfr h10)
          generalize y.a.said.length = n0 at *
          generalize y.b.said.length = n1 at *
          generalize y.a.rd = m0 at *
          generalize y.b.rd = m1 at *
          clear hbk hfr hT hix0 hix1
          go_wp2
          exact bodyPost_ret (v := .tuple #[.agg #[.slice As0 n0 cs0, .slice Ag0 m0 cg0, .bool y.a.fin, .int .i64 y.a.st, .slice As1 n1 cs1, .slice Ag1 m1 cg1, .bool y.b.fin, .int .i64 y.b.st], .int .i64 0]) (by simp [results, Try.results81, go_sem, t0, t1, t2, t3, t4, t5, t6, t7]) rfl (HF9.out _ (((((((((Fr.refl (fun k => k = w.heap.size) W0).setCell (p := ⟨w.heap.size, 0, none⟩) (fun _ => rfl) _).setCell (p := ⟨w.heap.size, 1, none⟩) (fun _ => rfl) _).setCell (p := ⟨w.heap.size, 2, none⟩) (fun _ => rfl) _).setCell (p := ⟨w.heap.size, 3, none⟩) (fun _ => rfl) _).setCell (p := ⟨w.heap.size, 4, none⟩) (fun _ => rfl) _).setCell (p := ⟨w.heap.size, 5, none⟩) (fun _ => rfl) _).setCell (p := ⟨w.heap.size, 6, none⟩) (fun _ => rfl) _).setCell (p := ⟨w.heap.size, 7, none⟩) (fun _ => rfl) _))
end Go.Proofs.Ythlhjaacjhlkhaa
/- The law ringlaw4.WireRun. -/
namespace Go.Proofs.Ythlhjaacjhlkhaa
open Go.RowKit
set_option maxHeartbeats 400000
set_option linter.unusedVariables false
set_option linter.unusedSimpArgs false
/-- What both ends told. -/
structure Tt where
  x0 : List Int
  y0 : List Int
  f0 : Bool
  s0 : Int
  x1 : List Int
  y1 : List Int
  f1 : Bool
  s1 : Int
  er : Int
def RunO (w : World) (T : Tt) (e : Ending) (w' : World) : Prop :=
  ∃ A0 c0 B0 d0 A1 c1 B1 d1, e = .returned (.tuple #[.agg #[.slice A0 T.x0.length c0, .slice B0 T.y0.length d0, .bool T.f0, .int .i64 T.s0, .slice A1 T.x1.length c1, .slice B1 T.y1.length d1, .bool T.f1, .int .i64 T.s1], .int .i64 T.er]) ∧
    RB w' w'.heap.size A0 T.x0.length T.x0 ∧ RB w' w'.heap.size B0 T.y0.length T.y0 ∧ RB w' w'.heap.size A1 T.x1.length T.x1 ∧ RB w' w'.heap.size B1 T.y1.length T.y1 ∧ Below w.heap.size w w'
def Sys.tt (y : Sys) : Tt := ⟨y.a.said, y.a.rdL, y.a.fin, y.a.st, y.b.said, y.b.rdL, y.b.fin, y.b.st, 0⟩
def Tt.large : Tt := ⟨[], [], false, 0, [], [], false, 0, 2⟩
theorem RunP.out {w w' : World} {y : Sys} {m : Nat} {e : Ending} (hok : y.Ok m) (h : RunP w y e w') : RunO w y.tt e w' := by
  obtain ⟨vw, vr, rfl, h1, h2, h3⟩ := h
  obtain ⟨A0, c0, e0, -, -⟩ := (h1 0 (by omega)).shape
  obtain ⟨A1, c1, e1, -, -⟩ := (h1 1 (by omega)).shape
  obtain ⟨B0, d0, g0, -, -⟩ := (h2 0 (by omega)).shape
  obtain ⟨B1, d1, g1, -, -⟩ := (h2 1 (by omega)).shape
  have r0 := h1 0 (by omega)
  have r1 := h1 1 (by omega)
  have q0 := h2 0 (by omega)
  have q1 := h2 1 (by omega)
  rw [e0] at r0
  rw [e1] at r1
  rw [g0] at q0
  rw [g1] at q1
  refine ⟨A0, c0, B0, d0, A1, c1, B1, d1, ?_, ⟨r0.reads, hok.a.bs⟩, ⟨q0.reads, byt_take hok.a.bg _⟩, ⟨r1.reads, hok.b.bs⟩, ⟨q1.reads, byt_take hok.b.bg _⟩, h3⟩
  rw [e0, e1, g0, g1]
  rfl
theorem large_out {w w' : World} {e : Ending} (h : e = .returned (.tuple #[toldZ, .int .i64 2]) ∧ Below w.heap.size w w') : RunO w Tt.large e w' := by
  obtain ⟨rfl, hb⟩ := h
  have hn : RB w' w'.heap.size none 0 ([] : List Int) := ⟨Reads.none_, fun x hx => by cases hx⟩
  exact ⟨none, 0, none, 0, none, 0, none, 0, rfl, hn, hn, hn, hn, hb⟩
theorem RDe.more {w : World} {B B' n : Nat} {A : Option Addr} {ps : List De} (h : RDe w B A n ps) (hB : B ≤ B') : RDe w B' A n ps := ⟨h.1.more hB, fun r hr => ⟨(h.2 r hr).ds.more hB, (h.2 r hr).mc⟩⟩
/-- Both answer alike. -/
theorem both_alike (a b : Int) (ha : 0 ≤ a ∧ a < 4294967296) (hb : 0 ≤ b ∧ b < 4294967296) (A : Option Addr) (n c : Nat) (ps : List De) (hnc : n ≤ c) (hl : ps.length = n) (hby : ∀ d ∈ ps.map De.dd, Byt d.ds) :
    ∃ T, ∀ w, RDe w w.heap.size A n ps → Calls Try.prog 80 #[.int .u32 a, .int .u32 b, .slice A n c] w (RunO w T) ∧ Calls Try.prog 81 #[.int .u32 a, .int .u32 b, .slice A n c] w (RunO w T) := by
  by_cases hn : n ≤ 200
  · have hok := Sys.runK_ok (L := ps.map De.dd) ha hb hby n (by rw [List.length_map]; omega)
    exact ⟨_, fun w h => ⟨(run_ok a b ha hb A n c ps w h hn hnc).mono (fun e w' hr => hr.out hok), (lined_ok a b ha hb A n c ps w h hn hnc).mono (fun e w' hr => hr.out hok)⟩⟩
  · exact ⟨Tt.large, fun w h => ⟨(run_large a b A n c w (by omega)).mono (fun e w' hr => large_out hr), (lined_large a b A n c w (by omega)).mono (fun e w' hr => large_out hr)⟩⟩
set_option maxHeartbeats 4000000 in
set_option maxRecDepth 100000 in
theorem law_wireRun (a b : Int) (ha : 0 ≤ a ∧ a < 4294967296) (hb : 0 ≤ b ∧ b < 4294967296) (A : Option Addr) (n c : Nat) (ps : List De) (w : World) (h : RDe w w.heap.size A n ps) (hnc : n ≤ c) :
    Calls Try.prog 9 #[.int .u32 a, .int .u32 b, .slice A n c] w fun e w' => e = .returned (.bool true) ∧ Below w.heap.size w w' := by
  obtain ⟨T, hT⟩ := both_alike a b ha hb A n c ps hnc h.1.2 (fun d hd => by
    obtain ⟨r, hr, rfl⟩ := List.mem_map.1 hd
    exact (h.2 r hr).ds.2)
  have HT := Lib.hid hT
  have HD := Lib.hid h
  clear hT h ha hb
  obtain ⟨x0, y0, f0, s0, x1, y1, f1, s1, er⟩ := T
  have b0 : (f0 != f0) = false := by simp
  have b1 : (f1 != f1) = false := by simp
  have b2 : (s0 != s0) = false := by simp
  have b3 : (s1 != s1) = false := by simp
  have b4 : (er == er) = true := by simp
  go_enter Try.func9, Try.ntmps9
  go_wp2_with fail
  refine (HT.out w HD.out).1.mono ?_
  rintro e w1 ⟨A0, c0, B0, d0, A1, c1, B1, d1, rfl, hx0, hy0, hx1, hy1, hb1⟩
  dsimp only at hx0 hy0 hx1 hy1 ⊢
  obtain ⟨W2, hW2⟩ : ∃ W2, W2 = w1.alloc (.cells #[.slice A0 x0.length c0, .slice B0 y0.length d0, .bool f0, .int .i64 s0, .slice A1 x1.length c1, .slice B1 y1.length d1, .bool f1, .int .i64 s1] 101) := ⟨_, rfl⟩
  have hb12 : Below w1.heap.size w1 W2 := by rw [hW2]; exact (Below.refl _ _).alloc (Nat.le_refl _) _
  have hk2 : Blk W2 w1.heap.size #[.slice A0 x0.length c0, .slice B0 y0.length d0, .bool f0, .int .i64 s0, .slice A1 x1.length c1, .slice B1 y1.length d1, .bool f1, .int .i64 s1] 101 := by rw [hW2]; exact Blk.new _ _ _
  have hbw2 : Below w.heap.size w W2 := hb1.trans (hb12.mono hb1.size)
  have hl2 := hk2.lt
  go_wp2_with fail
  rw [← hW2]
  refine (HT.out W2 ((HD.out.below' hbw2 (Nat.le_refl _)).more hbw2.size)).2.mono ?_
  rintro e w3 ⟨A0', c0', B0', d0', A1', c1', B1', d1', rfl, hx0', hy0', hx1', hy1', hb3⟩
  dsimp only at hx0' hy0' hx1' hy1' ⊢
  obtain ⟨W4, hW4⟩ : ∃ W4, W4 = w3.alloc (.cells #[.slice A0' x0.length c0', .slice B0' y0.length d0', .bool f0, .int .i64 s0, .slice A1' x1.length c1', .slice B1' y1.length d1', .bool f1, .int .i64 s1] 101) := ⟨_, rfl⟩
  have hb34 : Below w3.heap.size w3 W4 := by rw [hW4]; exact (Below.refl _ _).alloc (Nat.le_refl _) _
  have hk4 : Blk W4 w3.heap.size #[.slice A0' x0.length c0', .slice B0' y0.length d0', .bool f0, .int .i64 s0, .slice A1' x1.length c1', .slice B1' y1.length d1', .bool f1, .int .i64 s1] 101 := by rw [hW4]; exact Blk.new _ _ _
  have hb24 : Below W2.heap.size W2 W4 := hb3.trans (hb34.mono hb3.size)
  have HK2 := Lib.hid (hk2.fr (Fr.of_grow hb24) id)
  have HK4 := Lib.hid hk4
  have HBW4 := Lib.hid (hbw2.trans (hb24.mono hbw2.size))
  have hb14 : Below w1.heap.size w1 W4 := hb12.trans (hb24.mono hb12.size)
  have mv : ∀ {A : Option Addr} {n : Nat} {xs : List Int} {u : World}, RB u u.heap.size A n xs → Below u.heap.size u W4 → ∀ W, Below W4.heap.size W4 W → RB W W.heap.size A n xs := fun h h1 W h2 => (((h.below' h1 (Nat.le_refl _)).more h1.size).below' h2 (Nat.le_refl _)).more h2.size
  have HX0 := Lib.hid (mv hx0 hb14)
  have HY0 := Lib.hid (mv hy0 hb14)
  have HX1 := Lib.hid (mv hx1 hb14)
  have HY1 := Lib.hid (mv hy1 hb14)
  have HX0' := Lib.hid (mv hx0' hb34)
  have HY0' := Lib.hid (mv hy0' hb34)
  have HX1' := Lib.hid (mv hx1' hb34)
  have HY1' := Lib.hid (mv hy1' hb34)
  clear hx0 hy0 hx1 hy1 hx0' hy0' hx1' hy1' mv hb12 hb34 hb14 hb24 hk2 hk4 hb1 hb3 hbw2
  go_wp2_with fail
  rw [← hW4]
  clear hW2 hW4 hl2
  go_loopw [26] (fun v wr => ∃ z : Int, v = .int .i64 z ∧ (z = 0 ∨ z = 1 ∨ z = 2) ∧ Hid (Below W4.heap.size W4 wr)) (fun v _ => 2 - (intOf v).toNat)
  case atStart => exact ⟨0, rfl, .inl rfl, Lib.hid (Below.refl _ _)⟩
  case round =>
    obtain ⟨z, rfl, hz, HBR⟩ := hrel
    have hkx := HK2.out.fr (Fr.of_grow HBR.out) id
    have hky := HK4.out.fr (Fr.of_grow HBR.out) id
    have kx0 := hkx.cell 0
    have kx1 := hkx.cell 1
    have kx2 := hkx.cell 2
    have kx3 := hkx.cell 3
    have kx4 := hkx.cell 4
    have kx5 := hkx.cell 5
    have kx6 := hkx.cell 6
    have kx7 := hkx.cell 7
    have kxl := hkx.lt
    have ky0 := hky.cell 0
    have ky1 := hky.cell 1
    have ky2 := hky.cell 2
    have ky3 := hky.cell 3
    have ky4 := hky.cell 4
    have ky5 := hky.cell 5
    have ky6 := hky.cell 6
    have ky7 := hky.cell 7
    have kyl := hky.lt
    dsimp at kx0 kx1 kx2 kx3 kx4 kx5 kx6 kx7 ky0 ky1 ky2 ky3 ky4 ky5 ky6 ky7
    clear hkx hky
    have nr : ∀ V, Below wr.heap.size wr V → Below W4.heap.size W4 V := fun V h => HBR.out.trans (h.mono HBR.out.size)
    have HNR := Lib.hid nr
    clear nr
    rcases hz with rfl | rfl | rfl
    · go_wp2_with fail
      refine wp_region_near wr.heap.size (by kernel_rfl) (by kernel_rfl) ?_
      repeat (go_big_quiet_step (first
        | (go_at_call 18; exact Calls.near_same (sameBytes_any _ _ _ _ _ _ x0 x0 _ _ _ (HX0.out _ (HNR.out _ (Near.prop _))) (HX0'.out _ (HNR.out _ (Near.prop _)))))
        | (go_at_call 18; exact Calls.near_same (sameBytes_any _ _ _ _ _ _ y0 y0 _ _ _ (HY0.out _ (HNR.out _ (Near.prop _))) (HY0'.out _ (HNR.out _ (Near.prop _)))))))
      refine wpQuiet_nil ?_
      intro wz hbz
      have HBZ := Lib.hid (HNR.out _ hbz)
      clear hbz kx0 kx1 kx2 kx3 kx4 kx5 kx6 kx7 kxl ky0 ky1 ky2 ky3 ky4 ky5 ky6 ky7 kyl
      go_wp2
      go_roundw
      case rel => exact ⟨1, rfl, .inr (.inl rfl), HBZ⟩
      case measure => simp [intOf]
    · go_wp2_with fail
      refine wp_region_near wr.heap.size (by kernel_rfl) (by kernel_rfl) ?_
      repeat (go_big_quiet_step (first
        | (go_at_call 18; exact Calls.near_same (sameBytes_any _ _ _ _ _ _ x1 x1 _ _ _ (HX1.out _ (HNR.out _ (Near.prop _))) (HX1'.out _ (HNR.out _ (Near.prop _)))))
        | (go_at_call 18; exact Calls.near_same (sameBytes_any _ _ _ _ _ _ y1 y1 _ _ _ (HY1.out _ (HNR.out _ (Near.prop _))) (HY1'.out _ (HNR.out _ (Near.prop _)))))))
      refine wpQuiet_nil ?_
      intro wz hbz
      have HBZ := Lib.hid (HNR.out _ hbz)
      clear hbz kx0 kx1 kx2 kx3 kx4 kx5 kx6 kx7 kxl ky0 ky1 ky2 ky3 ky4 ky5 ky6 ky7 kyl
      go_wp2
      go_roundw
      case rel => exact ⟨2, rfl, .inr (.inr rfl), HBZ⟩
      case measure => simp [intOf]
    · clear kx0 kx1 kx2 kx3 kx4 kx5 kx6 kx7 kxl ky0 ky1 ky2 ky3 ky4 ky5 ky6 ky7 kyl
      have HF := Lib.hid (HBW4.out.trans (HBR.out.mono HBW4.out.size))
      go_wp2
      go_ret
      exact ⟨rfl, HF.out⟩
end Go.Proofs.Ythlhjaacjhlkhaa
