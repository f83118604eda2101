/- Contract of bind.Bytes. -/
import Derived.Test.YtmndmdipjfblhaaBlD
import Derived.Test.YtmndmdipjfblhaaNear
namespace Go.Proofs.Ytmndmdipjfblhaa
open Go.RowKit
set_option maxHeartbeats 400000
set_option linter.unusedVariables false
set_option linter.unusedSimpArgs false
theorem Fo.Full.more {f : Fo} {w : World} {B B' : Nat} (h : f.Full w B) (hB : B ≤ B') : f.Full w B' :=
  ⟨⟨⟨h.fine.rd.ns.more hB, h.fine.rd.ds.more hB, h.fine.rd.m0, h.fine.rd.m1, h.fine.rd.m2, h.fine.rd.m3⟩, h.fine.hc, h.fine.hm⟩, Reads.more h.rw hB, h.wr, h.rb.more hB⟩
theorem splice_map {α β : Type} (f : α → β) (xs ys : List α) (a : Nat) : (splice xs a ys).map f = splice (xs.map f) a (ys.map f) := by simp [splice]
theorem infoU8 : (Try.prog.info? 5).map (fun i => (i.zero, i.size, i.bytes)) = some (some (.int .u8 0), 1, 1) := by kernel_rfl
theorem rs_en_at {w : World} {B n i : Nat} {A : Option Addr} {l : List En} (h : RS En.cells 3 w B A n l) (hi : i < n) :
    ∃ b o x, A = some ⟨b, o, none⟩ ∧ b < B ∧ l[i]? = some x ∧ w.cell? ⟨b, o + i * 3, none⟩ = some (.string x.s) ∧ w.cell? ⟨b, o + i * 3 + 1, none⟩ = some (.int .i64 x.part) ∧ w.cell? ⟨b, o + i * 3 + 2, none⟩ = some (.int .i64 x.ad) := by
  obtain ⟨b, o, e, hb, hm, hc⟩ := RS.at_ (cl := En.cells) (s := 3) (fun _ => rfl) En.zero h hi
  have hl : i < l.length := by rw [h.2]; exact hi
  exact ⟨b, o, _, e, hb, by simp [List.getD, List.getElem?_eq_getElem hl], hc 0 _ rfl, hc 1 _ rfl, hc 2 _ rfl⟩
theorem made_out (n : Nat) : (madeCells #[.int .u8 0] (n * 1)).toList = (List.replicate n 0).map (Value.int .u8) := by
  refine List.ext_getElem (by simp [madeCells]) fun j h1 h2 => ?_
  simp [madeCells, Nat.mod_one]
theorem own_blk {w : World} {base g n : Nat} {t : TypeId} {xs : List Value} (h : w.ownsRow base t 1 (.slice (some ⟨g, 0, none⟩) n n) n xs) : Blk w g xs.toArray t := by
  have hl := h.1
  rcases h.2 with ⟨h0, _⟩ | ⟨g', cap, cur, e, hb, hg, hn, hm, hs, ht⟩
  · injection h0 with h0; cases h0
  · injection e with e1 e2 e3
    injection e1 with e1
    injection e1 with e1
    subst e1; subst e3
    unfold Blk
    rw [hg]
    congr 2
    apply Array.ext'
    simp
    rw [← ht, List.take_of_length_le]
    simp; omega
/-- A call of a Go function as one step of a region that draws its order. -/
theorem step_call_go {P : Program} {ops : Array Oper} {o : Oper} {a : Act} {w : World} {K : Act → World → Prop} {Q : Exit → Act → World → Prop} {E : Prop} (hgd : o.guard = none) (f : FuncId) (xs : Array Operand) (ats : Array TypeId)
    (ho : o.op = .call { callee := .value (.func f), args := xs, argTypes := ats }) (args : Array Value) (hargs : xs.map a.eval = args) (hrun : (callFunc f args).run P w = .ok (.enter f args) w) (Φ : Value → World → Prop)
    (hC : Calls P f args w fun e w' => ∃ v, e = .returned v ∧ Φ v w') (h : ∀ v w', Φ v w' → K (a.put o.dst v) w') : if Region.wanted o (yielded ops a.tmps) = true then Oper.wp P o a w K Q else E := by
  have hw : Region.wanted o (yielded ops a.tmps) = true := by simp [Region.wanted, hgd]
  rw [if_pos hw]
  unfold Oper.wp
  have e : execOp a.eval o = callFunc f args := by
    obtain ⟨dst, op, ty, pos, after, guard⟩ := o
    dsimp only at ho
    subst ho
    rw [execOp_call_go, hargs]
    simp
  rw [e, hrun, Oper.upon_enter]
  refine hC.mono ?_
  rintro e' w' ⟨v, rfl, hΦ⟩
  exact h v w' hΦ
theorem run19 (args : Array Value) (w : World) : (callFunc 19 args).run Try.prog w = .ok (.enter 19 args) w := by
  have h := Try.func19
  simp [callFunc, go_sem, h, Try.f19]
def WdGood (w : World) (n0 : Nat) (L : List Int) (v : Value) (w' : World) : Prop := ∃ A c, v = .tuple #[.slice A n0 c, .int .i64 0] ∧ Row w' w.heap.size 38 1 (.slice A n0 c) n0 (L.map (Value.int .u32)) ∧ Below w.heap.size w w'
def WdBad (w : World) (v : Value) (w' : World) : Prop := ∃ A c, v = .tuple #[.slice A 0 c, .int .i64 4] ∧ Below w.heap.size w w'
theorem words_good {n0 : Nat} {L : List Int} {args : Array Value} {w : World} (h : Calls Try.prog 19 args w (WdPost w n0 true L)) : Calls Try.prog 19 args w fun e w' => ∃ v, e = .returned v ∧ WdGood w n0 L v w' :=
  h.mono fun e w' hp => by
    obtain ⟨v, rfl, hr, hb⟩ := hp
    obtain ⟨A, c, rfl, _, _⟩ := hr.shape
    exact ⟨_, rfl, A, c, rfl, hr, hb⟩
theorem words_bad {n0 : Nat} {L : List Int} {args : Array Value} {w : World} (h : Calls Try.prog 19 args w (WdPost w n0 false L)) : Calls Try.prog 19 args w fun e w' => ∃ v, e = .returned v ∧ WdBad w v w' :=
  h.mono fun e w' hp => by
    obtain ⟨v, rfl, hr, hb⟩ := hp
    obtain ⟨A, c, rfl, _, _⟩ := hr.shape
    exact ⟨_, rfl, A, c, rfl, hb⟩
set_option maxHeartbeats 2000000 in
set_option maxRecDepth 100000 in
theorem bytes_any (hchk : ∀ (o : Ob) (w : World) (B : Nat), o.Read w B → B ≤ w.heap.size → Calls Try.prog 21 #[.agg o.vals] w (ErrPost w (objErr o)))
    (A : Option Addr) (n c : Nat) (fs : List Fo) (w : World) (B : Nat) (h : RF w B A n fs) (hB : B ≤ w.heap.size) (hn : n ≤ 9223372036854775807) : Calls Try.prog 9 #[.slice A n c] w (ByPost w fs) := by
  obtain ⟨i0, hi, hz0, hz1, hz2⟩ := info_parts infoU8
  have hmm := @run_makeMap Try.prog
  have HL := Lib.hid h.len
  have HR : RO w B A n (osOf fs) := h.ro
  have HC := Lib.hid (fun W (hb : Below w.heap.size w W) => places_any hchk A n c (osOf fs) W B (HR.below' hb hB) (Nat.le_trans hB hb.size) hn)
  have HSP := Lib.hid (fun W (hb : Below w.heap.size w W) => spots_any hchk A n c (osOf fs) W B (HR.below' hb hB) (Nat.le_trans hB hb.size) hn)
  unfold PlPost at HC
  unfold SpPost at HSP
  by_cases hE : plErr (osOf fs) = 0
  rotate_left
  · have e : Hid (byErr fs = plErr (osOf fs)) := Lib.hid (by unfold byErr; rw [if_neg hE])
    generalize plErr (osOf fs) = E at *
    have HE := Lib.hid hE
    have d : (E != 0) = true := by simpa using hE
    clear hE
    go_enter Try.func9, Try.ntmps9
    go_wp2_with fail
    refine (HC.out _ (Below.refl _ _)).mono ?_
    rintro e' w3 ⟨v, rfl, hr3, hb3⟩
    go_wp2
    go_ret2
    exact ByPost.bad e.out HE.out hb3
  obtain ⟨hsp, hpl⟩ := pl_zero hE
  obtain ⟨hpe, htot⟩ := sp_zero hsp
  obtain ⟨hl12, hfit⟩ := parts_zero hpe
  have hll : (osOf fs).length = fs.length := by simp [osOf]
  have hn12 : n ≤ 12 := by rw [← HL.out, ← hll]; exact hl12
  have HBE : Hid (byErr fs = if thereAll fs (plL (osOf fs)) = true then 0 else 4) := Lib.hid (by unfold byErr; rw [if_pos hE])
  have hns : ∀ o ∈ osOf fs, o.ns.length = o.n2 := fun o ho => (HR.2 o ho).rd.ns.len
  have hpl288 := ents_len hfit hns hl12 hpl
  have HADR := Lib.hid (adr_fit hfit hl12 hpl)
  have HEF := Lib.hid (en_fine (fun o ho y hy => ((HR.2 o ho).rd.ns.2 y hy).1) hpl)
  have HEA : Hid (∀ x ∈ plL (osOf fs), 0 ≤ x.ad ∧ x.ad ≤ 20000) := Lib.hid (fun x hx => ents_ad hfit hl12 x (out_mem (by rw [← hpl]; exact hx)))
  have HSL : Hid (spL (osOf fs) = spC (cI (osOf fs) (osOf fs).length) (dI (osOf fs) (osOf fs).length) (osOf fs).length) := Lib.hid (by unfold spL; rw [if_pos hsp])
  have HSN : Hid (spN (osOf fs) = n) := Lib.hid (by unfold spN; rw [if_pos hsp, hll, HL.out])
  have HST : Hid (spT (osOf fs) = (spTot (osOf fs) : Int)) := Lib.hid (by unfold spT; rw [if_pos hsp])
  have HOS := Lib.hid (hll.trans HL.out)
  rw [HSL.out, HSN.out, HST.out, hsp, HOS.out] at HSP
  rw [hE] at HC
  have HGE := Lib.hid (sp_ge (osOf fs))
  have HTOT := Lib.hid htot
  have HFIT := Lib.hid hfit
  have HCL := Lib.hid (cN_le hfit)
  have HEZ : Hid (∀ f ∈ fs, objErr f.o = 0) := Lib.hid (fun f hf => first_zero (by unfold partsErr at hpe; split at hpe; (cases hpe); exact hpe) f.o (List.mem_map_of_mem hf))
  clear hsp hpe hl12 hfit hll hE hpl hns htot HSL HSN HST
  obtain ⟨pl, hple⟩ : ∃ pl, pl = plL (osOf fs) := ⟨_, rfl⟩
  rw [← hple] at HC HBE HADR hpl288 HEF HEA
  have HPL := Lib.hid hple
  clear hple
  go_enter Try.func9, Try.ntmps9
  go_wp2_with fail
  refine (HC.out _ (Below.refl _ _)).mono ?_
  rintro e' w3 ⟨v3, rfl, hr3, hb3⟩
  obtain ⟨AP, cP, rfl, hcP1, hcP2⟩ := hr3.shape
  have HRP := Lib.hid (⟨hr3.reads, rfl⟩ : RS En.cells 3 w3 w3.heap.size AP pl.length pl)
  have HB3 := Lib.hid hb3
  have hsz3 := hb3.size
  clear hr3 hb3
  go_wp2
  go_loopw [31] (fun i wr => ∃ k m : Nat, k ≤ pl.length ∧ m ≤ k ∧ i = .int .i64 k ∧ TextInt Try.prog wr 9 3 w3.heap.size m (adr (pl.take k)) ∧ Below w3.heap.size w3 wr) (fun i _ => pl.length - (intOf i).toNat)
  case atStart => exact ⟨0, 0, by omega, by omega, rfl, TextInt.made Try.prog w3 9 3, (Below.refl _ _).alloc (Nat.le_refl _) _⟩
  case round =>
    obtain ⟨k, m, hk, hm, rfl, hti, hbw⟩ := hrel
    have hsw := hbw.size
    by_cases hlt : k < pl.length
    · obtain ⟨b, o, x, rfl, hb, hx, z0, z1, z2⟩ := rs_en_at (⟨Reads.below' HRP.out.1 hbw (Nat.le_refl _), rfl⟩ : RS En.cells 3 wr w3.heap.size AP pl.length pl) hlt
      have hsn := Lib.hid (fun key => adr_snoc hx key)
      have hxf := HEF.out x (List.mem_of_getElem? hx)
      have hxa : 0 ≤ x.ad ∧ x.ad ≤ 20000 := HEA.out x (List.mem_of_getElem? hx)
      have hti2 := hti.alloc (.cells #[.string x.s, .int .i64 x.part, .int .i64 x.ad] 33)
      have hbw2 := hbw.alloc hsw (.cells #[.string x.s, .int .i64 x.part, .int .i64 x.ad] 33)
      obtain ⟨w6, hr6, hti6, hg6⟩ := hti2.update Try.underlying9 Try.underlying3 Try.underlying53 (by unfold maxLen; omega) (s := x.s) (by unfold maxLen; omega) (y := x.ad) (by simp [Lit.wf, IntKind.min, IntKind.max, IntKind.signed, IntKind.bits]; omega)
      have hb6 : Below w3.heap.size w3 w6 := hbw2.grown hg6 hbw2.size (fun k hk => by injection hk with hk; omega)
      have hti7 : TextInt Try.prog w6 9 3 w3.heap.size (m + 1) (adr (pl.take (k + 1))) := by
        have e : adr (pl.take (k + 1)) = fun z => if z = x.s.data.toList then some x.ad else adr (pl.take k) z := by funext z; exact hsn.out z
        rw [e]; exact hti6
      have HT := Lib.hid hti7
      clear hti hti2 hti6 hti7 hbw hbw2 hg6 hx
      obtain ⟨s, part, ad, wk⟩ := x
      dsimp only at z0 z1 z2 hxf hxa hr6
      go_wp2
      go_roundw
      case rel => exact ⟨k + 1, m + 1, by omega, by omega, by go_num, HT.out, hb6⟩
      case measure => simp [intOf]; omega
    · obtain rfl : k = pl.length := by omega
      rw [List.take_length] at hti
      have hbw3 : Below w.heap.size w wr := HB3.out.trans (hbw.mono hsz3)
      have HTI := Lib.hid hti
      clear hbw hti
      go_wp2_with fail
      refine (HSP.out _ hbw3).mono ?_
      rintro e' w4 ⟨v4, rfl, hr4, hb4⟩
      obtain ⟨AS, cS, rfl, hcS1, hcS2⟩ := hr4.shape
      have hbw4 := hbw3.trans (hb4.mono hbw3.size)
      have HTI4 := Lib.hid (HTI.out.fr (Fr.of_grow hb4) (fun h => h))
      have HR4 := Lib.hid hr4
      obtain ⟨tot, htt⟩ : ∃ tot, tot = spTot (osOf fs) := ⟨_, rfl⟩
      rw [← htt] at HGE HTOT ⊢
      have HTT := Lib.hid htt
      have hge := HGE.out
      have hto := HTOT.out
      clear htt hb4 hr4
      go_wp2_with (refine wpList_make_full _ rfl (.tmp 47) (.tmp 47) 35 rfl w.heap.size 5 i0 _ 1 Try.underlying35 hi hz0 hz1 .i64 .i64 _ _ tot rfl rfl rfl rfl (by rw [hz2]; omega) (by simp only [maxLen]; omega) hbw4.size ?_; intro w5 hown5 hgr5)
      have hblk := own_blk hown5
      rw [show (Value.int .u8 0).cells = #[.int .u8 0] from rfl, made_out] at hblk
      have hb45 : Below w4.heap.size w4 w5 := (Below.refl _ _).grown hgr5 (Nat.le_refl _) (fun k hk => by cases hk)
      have hs4 := hbw4.size
      have hs45 := hb45.size
      have hglt := hblk.lt
      rw [show (List.replicate tot (0 : Int)) = outTo fs pl tot 0 from rfl] at hblk
      have HTI5 := Lib.hid (HTI4.out.fr (Fr.of_below hb45) (fun h => by have := HTI4.out.lt; omega))
      have HB5 : Hid (Below w.heap.size w w5) := Lib.hid (hbw4.trans (hb45.mono hs4))
      have HC5 : Hid (∀ p : Addr, p.block < w4.heap.size → w5.cell? p = w4.cell? p) := Lib.hid (fun p hp => hb45.cell hp)
      have hml := HTI4.out.lt
      obtain ⟨go, hgo⟩ : ∃ go, go = w4.heap.size := ⟨_, rfl⟩
      rw [← hgo] at hblk hglt ⊢
      have HGO := Lib.hid hgo
      have hgow : w.heap.size ≤ go := by omega
      have hmgo : w3.heap.size < go := by omega
      clear hown5 hgr5 hb45 HTI4 HTI hbw3 hgo hs45
      go_wp2
      go_loopw [51] (fun i wr => ∃ k : Nat, k ≤ n ∧ i = .int .i64 k ∧ Blk wr go ((outTo fs pl tot k).map (Value.int .u8)).toArray 5 ∧ Below go w5 wr ∧ Hid (thereAll (fs.take k) pl = true)) (fun i _ => n - (intOf i).toNat)
      case atStart => exact ⟨0, by omega, rfl, hblk, Below.refl _ _, Lib.hid rfl⟩
      case round =>
        clear hblk hglt
        obtain ⟨k, hk, rfl, hblk, hbr, hth⟩ := hrel
        have hglt := hblk.lt
        have hrs := hbr.size
        have hbW : Below w.heap.size w wr := HB5.out.trans (hbr.mono (by omega))
        by_cases hlt : k < n
        rotate_left
        · obtain rfl : k = n := by omega
          have e : Hid (byErr fs = 0) := Lib.hid (by rw [HBE.out, ← List.take_length (l := fs), HL.out, hth.out]; rfl)
          have hfin := Lib.hid (ByPost.good (w := w) (w' := wr) (fs := fs) (g := go) (n := tot) e.out HTT.out hto hgow (by rw [← HPL.out, HL.out]; exact hblk) hbW)
          clear hblk
          go_wp2
          go_ret2
          exact hfin.out
        · obtain ⟨b, o, f, rfl, hb, hx, hfd, hfull, z0, z1, z2, z3⟩ := (h.below' hbW hB).at_ hlt
          have hxo : (osOf fs)[k]? = some f.o := by unfold osOf; rw [List.getElem?_map, hx]; rfl
          have hfx := HFIT.out f.o (List.mem_of_getElem? hxo)
          have hnd := obj_nds (HEZ.out f (List.mem_of_getElem? hx))
          obtain ⟨hbd1, hbd2⟩ := sp_bounds hxo
          rw [← HTT.out] at hbd1 hbd2
          have hcl := HCL.out k (by rw [HOS.out]; omega)
          obtain ⟨gs, so, rfl, hgs, _, _, hcells⟩ := spot_lt HR4.out hlt
          have ks0 := hcells (k * 2) _ (spC_even _ _ hlt)
          have ks1 := hcells (k * 2 + 1) _ (spC_odd _ _ hlt)
          rw [show cI (osOf fs) n k = (cN (osOf fs) k : Int) from if_pos hlt] at ks0
          rw [show dI (osOf fs) n k = (dN (osOf fs) k : Int) from if_pos hlt, ← Nat.add_assoc] at ks1
          rw [← HC5.out _ hgs, ← hbr.cell (p := ⟨gs, so + k * 2, none⟩) (by rw [HGO.out]; exact hgs)] at ks0
          rw [← HC5.out _ hgs, ← hbr.cell (p := ⟨gs, so + k * 2 + 1, none⟩) (by rw [HGO.out]; exact hgs)] at ks1
          have hgsg : gs < go := by rw [HGO.out]; exact hgs
          have hgs2 : gs < wr.heap.size := by omega
          have hti := HTI5.out.fr (Fr.of_below hbr) (fun h => by omega)
          have hstepX := Lib.hid (show outTo fs pl tot (k + 1) = putL (putL (outTo fs pl tot k) (cN (osOf fs) k) (pBytes (wvs (adr pl) (cN (osOf fs) k) f.o.ds f.ws))) (dN (osOf fs) k) f.bs by rw [outTo, hfd])
          have hXl := outTo_len fs pl tot k
          have hWL := hfull.rw.len
          have hBL := hfull.rb.len
          have HLB := Lib.hid (fun ok (hok : thereB (adr pl) f.o.ds = ok) => (show Calls Try.prog 19 #[.agg f.o.vals, .int .i64 (cN (osOf fs) k : Nat), .map (some w3.heap.size)] _ (WdPost _ f.o.n0 ok (wvs (adr pl) (cN (osOf fs) k) f.o.ds f.ws)) by
            have := words_any f (cN (osOf fs) k) w3.heap.size m (adr pl) ((wr.alloc (.cells #[.slice f.o.A0 f.o.n0 f.o.c0, .slice f.o.A1 f.o.n1 f.o.c1, .slice f.o.A2 f.o.n2 f.o.c2, .slice f.o.A3 f.o.n3 f.o.c3] 51)).drew) (by omega) HADR.out
              ((hfull.below' (((Below.refl wr.heap.size wr).alloc (Nat.le_refl _) (.cells #[.slice f.o.A0 f.o.n0 f.o.c0, .slice f.o.A1 f.o.n1 f.o.c1, .slice f.o.A2 f.o.n2 f.o.c2, .slice f.o.A3 f.o.n3 f.o.c3] 51)).drew) (by omega)).more (by simp; omega)) hfx.n0 hnd ((hti.alloc _).fr (Fr.drew (Fr.refl Nil _)) (fun h => h))
            rw [hok] at this
            exact this))
          have hbx : Blk (wr.alloc (.cells #[.slice f.o.A0 f.o.n0 f.o.c0, .slice f.o.A1 f.o.n1 f.o.c1, .slice f.o.A2 f.o.n2 f.o.c2, .slice f.o.A3 f.o.n3 f.o.c3] 51)) wr.heap.size #[.slice f.o.A0 f.o.n0 f.o.c0, .slice f.o.A1 f.o.n1 f.o.c1, .slice f.o.A2 f.o.n2 f.o.c2, .slice f.o.A3 f.o.n3 f.o.c3] 51 := Blk.new _ _ _
          have hrb := Lib.hid hfull.rb
          have hbad := Lib.hid (fun hok => all_bad hx (pl := pl) hok)
          have hgood := Lib.hid (fun hok => all_step hx (pl := pl) hok hth.out)
          have hbB : B ≤ wr.heap.size := by omega
          have hn0 := hfx.n0
          have hn1 := hfx.n1
          have hm0 := hfull.fine.rd.m0
          clear hfull hfd hxo hfx hcells hnd hti
          obtain ⟨⟨A0, n0, c0, A1, n1, c1, A2, n2, c2, A3, n3, c3, ns, ds⟩, ws, bs⟩ := f
          unfold Ob.vals at HLB
          dsimp only at z0 z1 z2 z3 hbd1 hbd2 hstepX hWL hBL HLB hbx hrb hbad hgood hn0 hn1 hm0
          have hLl := wvs_len (adr pl) (cN (osOf fs) k) ds ws
          generalize wvs (adr pl) (cN (osOf fs) k) ds ws = L at *
          have hlw := hbx.lt
          have HQ1 := Lib.hid (fun w8 (hb8 : Below (wr.alloc (.cells #[.slice A0 n0 c0, .slice A1 n1 c1, .slice A2 n2 c2, .slice A3 n3 c3] 51)).drew.heap.size (wr.alloc (.cells #[.slice A0 n0 c0, .slice A1 n1 c1, .slice A2 n2 c2, .slice A3 n3 c3] 51)).drew w8) => (show Below wr.heap.size wr w8 from ((((Below.refl wr.heap.size wr).alloc (Nat.le_refl _) _).drew).trans (hb8.mono (by simp)))))
          have HQ := Lib.hid (fun w8 (hb8 : Below (wr.alloc (.cells #[.slice A0 n0 c0, .slice A1 n1 c1, .slice A2 n2 c2, .slice A3 n3 c3] 51)).drew.heap.size (wr.alloc (.cells #[.slice A0 n0 c0, .slice A1 n1 c1, .slice A2 n2 c2, .slice A3 n3 c3] 51)).drew w8) => (show Below w.heap.size w w8 from hbW.trans ((HQ1.out w8 hb8).mono hbW.size)))
          cases hok : thereB (adr pl) ds with
          | false =>
            have hcal := words_bad (HLB.out _ hok)
            have he : Hid (byErr fs = 4) := Lib.hid (by rw [HBE.out, hbad.out hok]; rfl)
            clear hok HLB
            go_wp2_with fail
            go_region_law (refine step_call_go rfl 19 #[.tmp 57, .tmp 62, .tmp 63] #[51, 3, 53] rfl #[.agg #[.slice A0 n0 c0, .slice A1 n1 c1, .slice A2 n2 c2, .slice A3 n3 c3], .int .i64 (cN (osOf fs) k : Nat), .map (some w3.heap.size)] (by simp [Act.eval, Act.put]) (run19 _ _) (WdBad _) hcal ?_; rintro v8 w8 ⟨A8, c8, rfl, hb8⟩)
            all_goals
              go_wp2
              go_ret2
              exact ByPost.bad he.out (by omega) (HQ.out _ hb8)
          | true =>
            have hcal := words_good (HLB.out _ hok)
            have hth2 := Lib.hid (hgood.out hok)
            clear hok HLB hbad hgood hth
            have hpbl := pBytes_len L
            have HPB := Lib.hid (fun q p (hq : q < L.length) (hp : p < 4) => pBytes_at (ws := L) hq hp)
            have hsz1 : wr.heap.size ≤ (wr.alloc (.cells #[.slice A0 n0 c0, .slice A1 n1 c1, .slice A2 n2 c2, .slice A3 n3 c3] 51)).drew.heap.size := by simp
            generalize pBytes L = pb at *
            generalize outTo fs pl tot k = X at *
            generalize cN (osOf fs) k = cn at *
            generalize dN (osOf fs) k = dn at *
            go_wp2_with fail
            go_region_law (refine step_call_go rfl 19 #[.tmp 57, .tmp 62, .tmp 63] #[51, 3, 53] rfl #[.agg #[.slice A0 n0 c0, .slice A1 n1 c1, .slice A2 n2 c2, .slice A3 n3 c3], .int .i64 cn, .map (some w3.heap.size)] (by simp [Act.eval, Act.put]) (run19 _ _) (WdGood _ _ _) hcal ?_; rintro v8 w8 ⟨A8, c8, rfl, hr8, hb8⟩)
            all_goals
              have hq8 := HQ1.out _ hb8
              have hbr8 := Lib.hid (hbr.trans (hq8.mono (by omega)))
              have hblk8 := hblk.fr (Fr.of_grow hq8) (fun h => h)
              have hbx8 := (hbx.fr (Fr.drew (Fr.refl Nil _)) (fun h => h)).fr (Fr.of_grow hb8) (fun h => h)
              have hrb8 := hrb.out.below' hq8 hbB
              have j0 := (hq8.cell (p := ⟨gs, so + k * 2, none⟩) hgs2).trans ks0
              have j1 := (hq8.cell (p := ⟨gs, so + k * 2 + 1, none⟩) hgs2).trans ks1
              have hs8 := hq8.size
              have hr8b := hr8.base_le hsz1
              clear hr8 hb8 hcal hbx hrb ks0 ks1 hblk hbr z0 z1 z2 z3 HQ HQ1 hq8 hsz1 hlw
              have hne1 := Lib.hid (bp_row_blk hr8b hblk8 (by decide))
              have hblk9 : Blk w8 go ((putL X cn (pb.take (4 * 0))).map (Value.int .u8)).toArray 5 := by simpa [putL] using hblk8
              have hgo8 := hblk8.lt
              have hgsn : ¬ gs = go := by omega
              have hwn : ¬ wr.heap.size = go := by omega
              have hwn' : ¬ go = wr.heap.size := by omega
              have hox8 := hbx8.lt
              clear hblk8
              go_wp2
              go_loopw [72] (fun i w' => ∃ q : Nat, q ≤ n0 ∧ i = .int .i64 q ∧ Blk w' go ((putL X cn (pb.take (4 * q))).map (Value.int .u8)).toArray 5 ∧ Fr (fun k => k = go) w8 w') (fun i _ => n0 - (intOf i).toNat)
              case atStart => exact ⟨0, by omega, rfl, hblk9, Fr.refl _ _⟩
              case round =>
                clear hblk9
                obtain ⟨q, hq, rfl, hbq, hfq⟩ := hrel
                rename World => W9
                by_cases hql : q < n0
                · have hr9 := hr8b.fr hfq (fun k hk e => hne1.out (e ▸ hk))
                  obtain ⟨g9, o9, rfl, hg91, hg92, _, hc9⟩ := row_u32_at hr9 hql
                  have hqL : q < L.length := by omega
                  have hw9 := Lib.hid (fun p hp => HPB.out q p hqL hp)
                  generalize L.getD q 0 = wq at *
                  have hbq0 : Blk W9 go ((putL X cn (pb.take (4 * q + 0))).map (Value.int .u8)).toArray 5 := hbq
                  clear hbq
                  go_wp2
                  go_loopw [77] (fun i w' => ∃ p : Nat, p ≤ 4 ∧ i = .int .i64 p ∧ Blk w' go ((putL X cn (pb.take (4 * q + p))).map (Value.int .u8)).toArray 5 ∧ Fr (fun k => k = go) w8 w') (fun i _ => 4 - (intOf i).toNat)
                  case atStart => exact ⟨0, by omega, rfl, hbq0, hfq⟩
                  case round =>
                    clear hbq0
                    obtain ⟨p, hp, rfl, hbp, hfp⟩ := hrel
                    rename World => W10
                    by_cases hpl : p < 4
                    · have e9 := hw9.out p hpl
                      have hbn := blk_put hbp (by omega : 4 * q + p < pb.length) _ rfl
                      have hfn := Lib.hid (fun y => hfp.setCell (p := ⟨go, cn + 4 * q + p, none⟩) (fun _ => rfl) y)
                      rw [e9, ← Nat.add_assoc cn (4 * q) p] at hbn
                      have hce : ∃ z, W10.cell? ⟨go, cn + 4 * q + p, none⟩ = some z := by
                        rw [hbp.cell]
                        exact ⟨_, List.getElem?_toArray.trans (List.getElem?_eq_getElem (by rw [List.length_map, putL_len]; omega))⟩
                      obtain ⟨z9, hce⟩ := hce
                      have hfz := hbp.free (cn + 4 * q + p)
                      have hbd : cn + 4 * q + p < tot := by omega
                      have l0 := (hfp.cell (p := ⟨gs, so + k * 2, none⟩) (by simp; omega) hgsn).trans j0
                      have hgo10 := hbp.lt
                      have hgs10 : gs < W10.heap.size := by omega
                      replace hbn := Lib.hid hbn
                      clear hbp e9
                      rcases (by omega : p = 0 ∨ p = 1 ∨ p = 2 ∨ p = 3) with rfl | rfl | rfl | rfl
                      · try simp only [Nat.add_zero] at hce hfz hbd
                        go_wp2_with fail
                        go_region
                        all_goals
                          go_wp2
                          go_roundw
                          case rel => exact ⟨1, by omega, by go_num, hbn.out, (hfn.out _).drew⟩
                          case measure => simp [intOf]
                      · go_wp2_with fail
                        go_region
                        all_goals
                          go_wp2
                          go_roundw
                          case rel => exact ⟨2, by omega, by go_num, hbn.out, (hfn.out _).drew⟩
                          case measure => simp [intOf]
                      · go_wp2_with fail
                        go_region
                        all_goals
                          go_wp2
                          go_roundw
                          case rel => exact ⟨3, by omega, by go_num, hbn.out, (hfn.out _).drew⟩
                          case measure => simp [intOf]
                      · go_wp2_with fail
                        go_region
                        all_goals
                          go_wp2
                          go_roundw
                          case rel => exact ⟨4, by omega, by go_num, hbn.out, (hfn.out _).drew⟩
                          case measure => simp [intOf]
                    · obtain rfl : p = 4 := by omega
                      have hbp2 : Blk W10 go ((putL X cn (pb.take (4 * (q + 1)))).map (Value.int .u8)).toArray 5 := hbp
                      clear hbp
                      go_wp2
                      go_roundw
                      case rel => exact ⟨q + 1, by omega, by go_num, hbp2, hfp⟩
                      case measure => simp [intOf]; omega
                · obtain rfl : q = n0 := by omega
                  have hbq2 : Blk W9 go ((putL X cn pb).map (Value.int .u8)).toArray 5 := by
                    rw [List.take_of_length_le (by omega)] at hbq; exact hbq
                  have l1 := (hfq.cell (p := ⟨gs, so + k * 2 + 1, none⟩) (by simp; omega) hgsn).trans j1
                  have hgo9 := hbq2.lt
                  have hbx9 := hbx8.fr hfq (fun h => by omega)
                  have hcx9 := hbx9.cell
                  have hox9 := hbx9.lt
                  have hgs9 : gs < W9.heap.size := by omega
                  have hrb9 := hrb8.below' (B' := B) (hfq.below (by omega) (fun k hk => by omega)) (Nat.le_refl _)
                  clear hbq
                  have hcur : (putL X cn pb).length = tot := by rw [putL_len]; exact hXl
                  have hsrc : 0 < n1 → ∃ ad : Addr, A1 = some ad ∧ ∀ j v, (bs.map (Value.int .u8))[j]? = some v → W9.drew.cell? (ad.add j) = some v := by
                    intro h0
                    obtain ⟨b1, o1, e1, _, hc1⟩ := hrb9.1.2 h0
                    exact ⟨_, e1, fun j v hv => by rw [add_plain]; exact hc1 j v hv⟩
                  have HX := Lib.hid (show Below go w5 W9 from hbr8.out.trans (hfq.below (by omega) (fun k hk => by omega)))
                  have HS := Lib.hid (show splice ((putL X cn pb).map (Value.int .u8)) dn (bs.map (Value.int .u8)) = (outTo fs pl tot (k + 1)).map (Value.int .u8) by
                    rw [hstepX.out, putL_splice bs _ dn (by rw [hcur]; omega), splice_map])
                  have hdle : dn ≤ tot := by omega
                  by_cases hdt : dn = tot
                  · have hbs0 : bs = [] := List.eq_nil_of_length_eq_zero (by omega)
                    go_wp2_with fail
                    go_region_law (refine step_copy_splice rfl (.tmp 105) (.tmp 107) 35 35 rfl 5 Try.underlying35 (by kernel_rfl) (some ⟨go, 0, none⟩) A1 0 0 n1 c1 (by simp [Act.eval, Act.put]) (by simp [Act.eval, Act.put]) go dn ((putL X cn pb).map (Value.int .u8)) 5 hbq2 (bs.map (Value.int .u8)) (by rw [hbs0]; simp) (fun h0 => by rw [hbs0] at h0; simp at h0) (by rw [hbs0]; simp; omega) (u8_oneCell bs) go W9 (Below.refl _ _).drew (Nat.le_refl _) ?_; intro w11 HG hB11)
                    all_goals
                      rw [HS.out] at HG
                      have hBl := HX.out.trans hB11
                      go_wp2
                      go_roundw
                      case rel => exact ⟨k + 1, by omega, by go_num, HG.out, hBl, hth2⟩
                      case measure => simp [intOf]; omega
                  · have hdt' : ¬ tot = dn := fun e => hdt e.symm
                    go_wp2_with fail
                    go_region_law (refine step_copy_splice rfl (.tmp 105) (.tmp 107) 35 35 rfl 5 Try.underlying35 (by kernel_rfl) (some ⟨go, dn, none⟩) A1 (tot - dn) (tot - dn) n1 c1 (by simp [Act.eval, Act.put]) (by simp [Act.eval, Act.put]) go dn ((putL X cn pb).map (Value.int .u8)) 5 hbq2 (bs.map (Value.int .u8)) (by rw [List.length_map, hBL]; show n1 = min n1 (tot - dn); omega) (fun h0 => ⟨rfl, hsrc (by simpa [hBL] using h0)⟩) (by simp; omega) (u8_oneCell bs) go W9 (Below.refl _ _).drew (Nat.le_refl _) ?_; intro w11 HG hB11)
                    all_goals
                      rw [HS.out] at HG
                      have hBl := HX.out.trans hB11
                      go_wp2
                      go_roundw
                      case rel => exact ⟨k + 1, by omega, by go_num, HG.out, hBl, hth2⟩
                      case measure => simp [intOf]; omega
end Go.Proofs.Ytmndmdipjfblhaa
