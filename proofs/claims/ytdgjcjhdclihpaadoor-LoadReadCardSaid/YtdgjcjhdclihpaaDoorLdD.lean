/- load.Trim f10 (printed by mkLdD.py). -/
import Derived.Test.YtdgjcjhdclihpaaDoorLdC
import Derived.Test.YtdgjcjhdclihpaaDoorOwnZ
import Derived.Deep.RegionLaw
import Derived.Deep.Cut
import Derived.Deep.CutBlock
import Derived.Deep.DeepCutAuto
namespace Go.Proofs.YtdgjcjhdclihpaaDoor
open Go.RowKit
set_option maxHeartbeats 400000
set_option linter.unusedVariables false
set_option linter.unusedSimpArgs false
/-- A call of a Go function as one step of a region that draws its order. -/
theorem step_call_go {P : Program} {ops : Array Oper} {o : Oper} {a : Act} {w : World} {K : Act → World → Prop} {Q : Exit → Act → World → Prop} {E : Prop} (hgd : o.guard = none) (f : FuncId) (xs : Array Operand) (ats : Array TypeId)
    (ho : o.op = .call { callee := .value (.func f), args := xs, argTypes := ats }) (args : Array Value) (hargs : xs.map a.eval = args) (hrun : (callFunc f args).run P w = .ok (.enter f args) w) (Φ : Value → World → Prop)
    (hC : Calls P f args w fun e w' => ∃ v, e = .returned v ∧ Φ v w') (h : ∀ v w', Φ v w' → K (a.put o.dst v) w') : if Region.wanted o (yielded ops a.tmps) = true then Oper.wp P o a w K Q else E := by
  have hw : Region.wanted o (yielded ops a.tmps) = true := by simp [Region.wanted, hgd]
  rw [if_pos hw]
  unfold Oper.wp
  have e : execOp a.eval o = callFunc f args := by
    obtain ⟨dst, op, ty, pos, after, guard⟩ := o
    dsimp only at ho
    subst ho
    rw [execOp_call_go, hargs]
    simp
  rw [e, hrun, Oper.upon_enter]
  refine hC.mono ?_
  rintro e' w' ⟨v, rfl, hΦ⟩
  exact h v w' hΦ
theorem run18 (args : Array Value) (w : World) : (callFunc 18 args).run Tryd.prog w = .ok (.enter 18 args) w := by
  have h := Tryd.func18
  simp [callFunc, go_sem, h, Tryd.f18]
def BsV (xs : List Int) (w : World) (v : Value) (w' : World) : Prop := ∃ A n c, v = .slice A n c ∧ xs.length = n ∧ Row w' w.heap.size 5 1 (.slice A n c) n (xs.map (Value.int .u8)) ∧ Below w.heap.size w w'
theorem cloneB_v (A : Option Addr) (n c : Nat) (xs : List Int) (w : World) (B : Nat) (h : RB w B A n xs) (hB : B ≤ w.heap.size) (hn : n ≤ 140737488355328) :
    Calls Tryd.prog 18 #[.slice A n c] w fun e w' => ∃ v, e = .returned v ∧ BsV xs w v w' :=
  (cloneB_any A n c xs w B h hB hn).mono (by rintro e w' ⟨A', n', c', rfl, h1, h2, h3⟩; exact ⟨_, rfl, A', n', c', rfl, h1, h2, h3⟩)
theorem RB.take' {w : World} {B n k : Nat} {A : Option Addr} {xs : List Int} (h : RB w B A n xs) (hk : k ≤ n) : RB w B A k (xs.take k) := by
  refine ⟨?_, fun x hx => h.2 x (List.mem_of_mem_take hx)⟩
  have := h.1.take hk
  rwa [Nat.mul_one, ← List.map_take] at this
/-- The page that is appended, told by a property. -/
def ZP (hs : List Pg) (p r : Int) (T : List Int) (B : Nat) (A : Option Addr) (n c : Nat) (ys : List Value) (w : World) : Prop :=
  ∃ x : Pg, ys = hs.flatMap Pg.cells ++ x.cells ∧ x.p = p ∧ x.r = r ∧ x.xs = T ∧ x.own w B ∧ ∀ k, (Value.slice x.A x.n x.c).ownBlock = some k → (Value.slice A n c).ownBlock ≠ some k
theorem ZP.fr {hs : List Pg} {p r : Int} {T : List Int} {B n c : Nat} {A : Option Addr} {ys : List Value} {w w' : World} (h : ZP hs p r T B A n c ys w) (hf : Fr (fun k => (Value.slice A n c).ownBlock = some k) w w') : ZP hs p r T B A n c ys w' := by
  obtain ⟨x, h1, h2, h3, h4, h5, h6⟩ := h
  exact ⟨x, h1, h2, h3, h4, h5.fr hf h6, h6⟩
def PB (T : List Int) (L B : Nat) (A : Option Addr) (n c : Nat) (v : Value) (w : World) : Prop := ∃ A8 c8, v = .slice A8 L c8 ∧ OwnBs w B A8 L c8 T ∧ ∀ k, (Value.slice A8 L c8).ownBlock = some k → (Value.slice A n c).ownBlock ≠ some k
theorem PB.fr {T : List Int} {L B n c : Nat} {A : Option Addr} (v : Value) (w w' : World) (h : PB T L B A n c v w) (hf : Fr (fun k => (Value.slice A n c).ownBlock = some k) w w') : PB T L B A n c v w' := by
  obtain ⟨A8, c8, h1, h2, h3⟩ := h
  exact ⟨A8, c8, h1, h2.fr hf h3, h3⟩
def PA (p r : Int) (T : List Int) (L B : Nat) (A : Option Addr) (n c : Nat) (v : Value) (w : World) : Prop := ∃ A8 c8, v = .agg #[.int .i64 p, .int .i64 r, .slice A8 L c8] ∧ OwnBs w B A8 L c8 T ∧ ∀ k, (Value.slice A8 L c8).ownBlock = some k → (Value.slice A n c).ownBlock ≠ some k
theorem PA.fr {p r : Int} {T : List Int} {L B n c : Nat} {A : Option Addr} (v : Value) (w w' : World) (h : PA p r T L B A n c v w) (hf : Fr (fun k => (Value.slice A n c).ownBlock = some k) w w') : PA p r T L B A n c v w' := by
  obtain ⟨A8, c8, h1, h2, h3⟩ := h
  exact ⟨A8, c8, h1, h2.fr hf h3, h3⟩
def PC (p r : Int) (T : List Int) (L B : Nat) (A : Option Addr) (n c s0 : Nat) (v : Value) (w : World) : Prop := ∃ g6 A8 c8, v = .slice (some ⟨g6, 0, none⟩) 1 1 ∧ OwnBs w B A8 L c8 T ∧ (∀ k, (Value.slice A8 L c8).ownBlock = some k → (Value.slice A n c).ownBlock ≠ some k) ∧
  Reads w (g6 + 1) 3 (some ⟨g6, 0, none⟩) 1 (Pg.cells ⟨p, r, A8, L, c8, T⟩) ∧ g6 < w.heap.size ∧ (Value.slice A n c).ownBlock ≠ some g6
theorem PC.fr {p r : Int} {T : List Int} {L B n c s0 : Nat} {A : Option Addr} (v : Value) (w w' : World) (h : PC p r T L B A n c s0 v w) (hf : Fr (fun k => (Value.slice A n c).ownBlock = some k) w w') : PC p r T L B A n c s0 v w' := by
  obtain ⟨g6, A8, c8, h1, h2, h3, h4, h5, h6⟩ := h
  refine ⟨g6, A8, c8, h1, h2.fr hf h3, h3, ⟨h4.1, fun h0 => ?_⟩, Nat.lt_of_lt_of_le h5 hf.size, h6⟩
  obtain ⟨b, o, e, hb, hc⟩ := h4.2 h0
  injection e with e
  injection e with e1 e2
  subst e1; subst e2
  exact ⟨g6, 0, rfl, hb, fun j u hu => (hf.cell (p := ⟨g6, 0 + j, none⟩) h5 h6).trans (hc j u hu)⟩
/-- The image behind an append whose result is told by its place. -/
theorem ImSt.app {w w9 : World} {B g n c c9 : Nat} {e : Int} {A A9 : Option Addr} {gs : List Pg} {x : Pg} (h : ImSt w B g e A n c gs) (hf : Fr (fun k => (Value.slice A n c).ownBlock = some k) w w9) (hr : Row w9 B 41 3 (.slice A9 (n + 1) c9) (n + 1) (gs.flatMap Pg.cells ++ x.cells)) (hx : x.own w9 B)
    (_h0 : w9.cell? ⟨g, 0, none⟩ = w.cell? ⟨g, 0, none⟩) (hng : ¬ (Value.slice A n c).ownBlock = some g) :
    Blk w9 g #[.int .u32 e, .slice A n c] 25 ∧ ImSt (w9.setCell ⟨g, 1, none⟩ (.slice A9 (n + 1) c9)) B g e A9 (n + 1) c9 (gs ++ [x]) ∧ FrG B g w (w9.setCell ⟨g, 1, none⟩ (.slice A9 (n + 1) c9)) := by
  have hrow := h.pgs.row
  have hblk : Blk w9 g #[.int .u32 e, .slice A n c] 25 := h.blk.fr hf hng
  have hlen := h.len
  have hs := hf.size
  have hbase := h.base
  have hp : PgS w9 B (.slice A9 (n + 1) c9) (gs ++ [x]) := by
    refine ⟨by rw [List.length_append, hlen]; simpa using hr, fun y hy => ?_⟩
    rcases List.mem_append.1 hy with hy | hy
    · exact (h.pgs.own y hy).fr hf (fun k hk e => (h.pgs.own y hy).1.ne_row hrow (by decide) k hk e)
    · simp at hy
      subst hy
      exact hx
  refine ⟨hblk, ⟨by simpa using hblk.set 1 (.slice A9 (n + 1) c9), hp.set hblk (by decide) (by decide) _ _, by simp [hlen], h.lt, by simp; omega⟩, ?_⟩
  have hf2 : FrG B g w w9 := hf.mono fun k _ hk => .inr (hrow.lt k hk).1
  exact hf2.setCell (p := ⟨g, 1, none⟩) (.inl rfl) _
set_option maxHeartbeats 4000000 in
set_option maxRecDepth 100000 in
theorem trim_any (e : Int) (A : Option Addr) (n c : Nat) (gs : List Pg) (w : World) (B : Nat) (h : RP w B A n gs) (hB : B ≤ w.heap.size) (hbig : Big n gs) :
    Calls Tryd.prog 10 #[.agg #[.int .u32 e, .slice A n c]] w (ImPost e (gs.map Pg.keyT) w) := by
  obtain ⟨i1, hi1, hz3, hz4, hz5⟩ := info_parts infoG
  obtain ⟨W, hW⟩ : ∃ W, W = ((w.alloc (.cells #[.int .u32 e, .slice A n c] 25)).alloc (.cells #[.int .u32 0, .slice none 0 0] 25)).alloc (.cells #[.int .u32 e, .slice none 0 0] 25) := ⟨_, rfl⟩
  have hx0 : Blk W w.heap.size #[.int .u32 e, .slice A n c] 25 := by rw [hW]; exact ((Blk.new _ _ _).alloc _).alloc _
  have hx1 : Blk W (w.heap.size + 1) #[.int .u32 0, .slice none 0 0] 25 := by rw [hW]; have := (Blk.new (w.alloc (.cells #[.int .u32 e, .slice A n c] 25)) #[.int .u32 0, .slice none 0 0] 25).alloc (.cells #[.int .u32 e, .slice none 0 0] 25); simpa using this
  have hx2 : Blk W (w.heap.size + 2) #[.int .u32 e, .slice none 0 0] 25 := by rw [hW]; have := Blk.new ((w.alloc (.cells #[.int .u32 e, .slice A n c] 25)).alloc (.cells #[.int .u32 0, .slice none 0 0] 25)) #[.int .u32 e, .slice none 0 0] 25; simpa using this
  have hb0 : Below w.heap.size w W := by rw [hW]; exact (((Below.refl _ _).alloc (Nat.le_refl _) _).alloc (by simp) _).alloc (by simp; omega) _
  have hsW : W.heap.size = w.heap.size + 3 := by rw [hW]; simp
  have HIN := Lib.hid (h.below' hb0 hB)
  have HBIG := Lib.hid hbig
  have hlen := h.2.1
  obtain ⟨g0, hg0⟩ : ∃ g, w.heap.size = g := ⟨_, rfl⟩
  rw [hg0] at hx0 hx1 hx2 hb0 hsW hB
  obtain ⟨gr, hgr⟩ : ∃ gr, g0 + 1 = gr := ⟨_, rfl⟩
  obtain ⟨g, hg⟩ : ∃ g, gr + 1 = g := ⟨_, rfl⟩
  rw [hgr] at hx1
  rw [show g0 + 2 = g by omega] at hx2
  have hst0 : ImSt W (g + 1) g e none 0 0 [] := ⟨hx2, PgS.nil _ _, rfl, by omega, by omega⟩
  have HST0 := Lib.hid hst0
  have HX0 := Lib.hid hx0
  have HX1 := Lib.hid hx1
  have HB0 := Lib.hid hb0
  have HW := Lib.hid hW
  have HG0 := Lib.hid hg0
  have hl0 : g0 < gr := by omega
  have hlr : gr < g := by omega
  have hsW' : g < W.heap.size := by omega
  have HG := Lib.hid hg
  clear hW hb0 hx0 hx1 hx2 h hst0 hsW hg hbig
  have hfit := HBIG.out.fit
  go_enter Tryd.func10, Tryd.ntmps10
  go_wp2_with fail
  rw [HG.out, ← HW.out]
  clear HW hg0 hgr
  go_loopw [13] (fun i wr => ∃ (j : Nat) (A1 : Option Addr) (c1 : Nat) (hs : List Pg), j ≤ n ∧ i = .int .i64 j ∧ Hid (hs.map Pg.key = (gs.take j).map Pg.keyT) ∧ Hid (ImSt wr (g + 1) g e A1 j c1 hs) ∧ Hid (FrG (g + 1) g W wr)) (fun i _ => n - (intOf i).toNat)
  case atStart => exact ⟨0, none, 0, [], Nat.zero_le _, rfl, Lib.hid rfl, HST0, Lib.hid (FrG.refl _ _ _)⟩
  case round =>
    obtain ⟨j, A1, c1, hs, hj, rfl, hks, hst, hfr⟩ := hrel
    have hbg : Below g W wr := hfr.out.below (by omega) (by omega)
    have hsw2 := hbg.size
    have HBG := Lib.hid hbg
    clear hbg
    by_cases hjn : j < n
    rotate_left
    · obtain rfl : j = n := by omega
      have HK := Lib.hid (hks.out.trans (by rw [List.take_of_length_le (by omega)]))
      have hcb := hst.out.blk.cell
      have hlb := hst.out.blk.lt
      have hr9 := HX1.out.fr hfr.out (fun h => by rcases h with h | h <;> omega)
      have hrcc := hr9.cell
      have hrcf := hr9.free
      have hrcl := hr9.lt
      have HP := Lib.hid (fun (v0 v1 : Value) => (((hst.out.pgs.set hr9 (by decide) (by decide) 0 v0).set (hr9.set 0 v0) (by decide) (by decide) 1 v1).base (show g0 ≤ g + 1 by omega)))
      have HWB := Lib.hid (fun (v0 v1 : Value) => ((HB0.out.trans (HBG.out.mono (by omega))).setCell (p := ⟨gr, 0, none⟩) (by show g0 ≤ gr; omega) v0).setCell (p := ⟨gr, 1, none⟩) (by show g0 ≤ gr; omega) v1)
      have HL := Lib.hid hst.out.len
      clear hr9 hks hst hlen
      go_wp2
      refine bodyPost_ret (v := .agg #[.int .u32 e, .slice A1 j c1]) (by simp [results, Tryd.results10, go_sem, hrcc, hrcl]) rfl ?_
      exact ⟨A1, _, c1, hs, rfl, HL.out, HK.out, by rw [HG0.out]; exact HP.out _ _, by rw [HG0.out]; exact HWB.out _ _⟩
    have hfine := (HIN.out.fine_ hjn)
    have hmem : gs.getD j .zero ∈ gs := by
      have : gs.getD j .zero = gs[j]'(by omega) := by simp [List.getD, List.getElem?_eq_getElem (show j < gs.length by omega)]
      rw [this]; exact List.getElem_mem _
    obtain ⟨bb, o, rfl, hbb, y0, y1, y2⟩ := HIN.out.at_ hjn
    have x0 := (HBG.out.cell (p := ⟨bb, o + j * 3, none⟩) (show bb < g by omega)).trans y0
    have x1 := (HBG.out.cell (p := ⟨bb, o + j * 3 + 1, none⟩) (show bb < g by omega)).trans y1
    have x2 := (HBG.out.cell (p := ⟨bb, o + j * 3 + 2, none⟩) (show bb < g by omega)).trans y2
    have HSN := Lib.hid (fun (x : Pg) (hx : x.key = (gs.getD j Pg.zero).keyT) => keys_snoc hks.out (by omega) hx)
    have hdata := HBIG.out.data _ hmem
    clear y0 y1 y2 hks hmem
    unfold Pg.fine at hfine
    unfold Pg.keyT at HSN
    generalize gs.getD j .zero = x at *
    obtain ⟨p, r, A', n', c', xs⟩ := x
    dsimp only at x0 x1 x2 hfine HSN hdata
    obtain ⟨hrb, hp, hr, hn'⟩ := hfine
    have hrb5 : RB (wr.alloc (.cells #[.int .i64 p, .int .i64 r, .slice A' n' c'] 41)) B A' n' xs := (hrb.below' HBG.out (by omega)).alloc (by omega) _
    have hxl := hrb.len
    obtain ⟨hdat, hnc', hcm'⟩ := hdata
    obtain ⟨w5, hw5⟩ : ∃ w5, w5 = wr.alloc (.cells #[.int .i64 p, .int .i64 r, .slice A' n' c'] 41) := ⟨_, rfl⟩
    have hb5 : Blk w5 wr.heap.size #[.int .i64 p, .int .i64 r, .slice A' n' c'] 41 := by rw [hw5]; exact Blk.new _ _ _
    have hbel5 : Below wr.heap.size wr w5 := by rw [hw5]; exact (Below.refl _ _).alloc (Nat.le_refl _) _
    rw [← hw5] at hrb5
    obtain ⟨g5, hg5⟩ : ∃ g, wr.heap.size = g := ⟨_, rfl⟩
    have hst5 := hst.out.grow hbel5
    have hs5 := hbel5.size
    rw [hg5] at hb5 hs5 hsw2
    have hsw5 : W.heap.size ≤ w5.heap.size := by omega
    have HB5 := Lib.hid hb5
    have HE5 := Lib.hid hbel5
    have HS5 := Lib.hid hst5
    have HRB5 := Lib.hid hrb5
    have HW5 := Lib.hid hw5
    have hkn : (j : Int) < n := by omega
    have hk0 : (0 : Int) ≤ j := by omega
    have htl := tn_le xs n'
    have HG5 := Lib.hid hg5
    obtain ⟨L, hL⟩ : ∃ L, tn xs n' = L := ⟨_, rfl⟩
    have HLT := Lib.hid hL
    have HT : Hid (trim xs = xs.take L) := Lib.hid (by unfold trim; rw [hxl, hL])
    rw [hL] at htl
    have HPR := Lib.hid (And.intro hp hr)
    have hst0 := hst.out
    obtain ⟨T, hTT⟩ : ∃ T, trim xs = T := ⟨_, rfl⟩
    rw [hTT] at HT HSN
    clear hst hw5 hb5 hbel5 hst5 hrb5 hL hrb hTT hp hr
    go_upto_block 2 with fail
    rw [← HW5.out]
    have hpc := HB5.out.cell
    have hpl := HB5.out.lt
    clear hg5
    go_cut [6] (fun v wz => v = .int .i64 L ∧ wz = w5)
    case first =>
      go_wp2_with fail
      go_loopw [6] (fun v wz => ∃ m : Nat, m ≤ n' ∧ v = .int .i64 m ∧ Hid (L = tn xs m) ∧ wz = w5) (fun v _ => (intOf v).toNat)
      case atStart => exact ⟨n', Nat.le_refl _, rfl, Lib.hid HLT.out.symm, rfl⟩
      case round =>
        obtain ⟨m, hm, rfl, hd, rfl⟩ := hrel
        cases m with
        | zero =>
          have hf : L = 0 := hd.out
          go_wp2
          go_meet
          exact ⟨by rw [hf], rfl⟩
        | succ m =>
          obtain ⟨b', o', rfl, hb', hc', hq0, hq1⟩ := HRB5.out.at_ (show m < n' by omega)
          have hbw5 : b' < wr.heap.size := by omega
          have hmi : ((m + 1 : Nat) : Int) - 1 = m := by omega
          have hpos : (0 : Int) < ((m + 1 : Nat) : Int) := by omega
          by_cases hz : xs.getD m 0 = 0
          · have HD := Lib.hid (hd.out.trans (tn_zero hz))
            rw [hz] at hc'
            clear hd hz hq0 hq1
            go_wp2
            go_roundw
            case rel => exact ⟨m, by omega, by go_num, HD, trivial⟩
            case measure => simp [intOf]
          · have HF := Lib.hid (hd.out.trans (tn_some hz))
            have hzb : (xs.getD m 0 == 0) = false := by simpa using hz
            generalize xs.getD m 0 = y at *
            clear hd hz
            go_wp2
            go_meet
            exact ⟨by rw [HF.out], rfl⟩
    case rest =>
      obtain ⟨rfl, rfl⟩ := hcut
      go_wp2_with fail
      have hcb := HS5.out.blk.cell
      have hlb := HS5.out.blk.lt
      have hfb := HS5.out.blk.free
      have hbs5 := HS5.out.base
      have hown1 : ∀ k, (Value.slice A1 j c1).ownBlock = some k → g < k ∧ k < g5 := fun k hk => by
        have := hst0.pgs.row.lt k hk
        rw [HG5.out] at this
        omega
      have hZ : ∀ ys w w', ZP hs p r T (g + 1) A1 j c1 ys w → Fr (fun k => (Value.slice A1 j c1).ownBlock = some k) w w' → ZP hs p r T (g + 1) A1 j c1 ys w' := fun ys w w' h hf => h.fr hf
      have HZ := Lib.hid hZ
      have hrow5 := HS5.out.pgs.row
      rw [HS5.out.len] at hrow5
      have HROW := Lib.hid hrow5
      have HRT := Lib.hid (RB.take' HRB5.out htl)
      rw [← HT.out] at HRT
      have HTB : Hid (Byt T) := Lib.hid HRT.out.2
      have hTl : T.length = L := HRT.out.len
      obtain ⟨wS, hwS⟩ : ∃ wS, wS = wc := ⟨_, rfl⟩
      rw [← hwS] at HB5 HE5 HS5 HRB5 HROW HRT hs5 hsw5 hbs5 hpl ⊢
      have HWS := Lib.hid hwS
      have hng5 : ¬ (Value.slice A1 j c1).ownBlock = some g5 := fun e => by have := hown1 _ e; omega
      have hng : ¬ (Value.slice A1 j c1).ownBlock = some g := fun e => by have := hown1 _ e; omega
      have hq0 := HS5.out.blk.cell 0
      have hq1 := HS5.out.blk.cell 1
      have hp0 := HB5.out.cell 0
      have hp1 := HB5.out.cell 1
      have hp2 := HB5.out.cell 2
      have hlg := HS5.out.blk.lt
      have hs0 : g5 < wS.heap.size := hpl
      dsimp at hq0 hq1 hp0 hp1 hp2
      have HO1 := Lib.hid hown1
      clear hwS hpc hcb hlb hfb hZ hrow5 hst0 hown1
      refine FR.wp_region_walk (AppZF (ZP hs p r T (g + 1) A1 j c1) (g + 1) 41 3 wS.heap.size A1 j c1 (j + 1)) (fun w' => Fr (fun k => (Value.slice A1 j c1).ownBlock = some k) wS w' ∧ Row w' (g + 1) 41 3 (.slice A1 j c1) j (hs.flatMap Pg.cells)) [[], [(33, 0)], [], [(35, 2)], [], [(37, 4)], [], [(39, 6)], [], [(40, 7), (41, 8)], [(42, 9)], [(36, 3), (38, 5), (43, 10)], [(44, 11)], [(34, 1), (45, 12)], []]
        [(33, 0), (34, 1), (35, 2), (36, 3), (37, 4), (38, 5), (39, 6), (40, 7), (41, 8), (42, 9), (43, 10), (44, 11), (45, 12), (46, 13), (47, 14)] (by kernel_rfl) (by kernel_rfl) (by kernel_rfl) ⟨(Fr.refl _ _).drew, HROW.out.drew⟩ ?_
      apply FR.Flow.det_step
      · go_light
        intro w1 hC1
        simp only [FR.Flow.fill, FR.Flow.after, FR.Flow.at_, List.nil_append, List.cons_append, List.getD_cons_zero, List.getD_cons_succ, FR.det, forall_eq, List.setIfInBounds_toArray, List.set_cons_zero, List.set_cons_succ, List.drop, List.length]
        obtain ⟨hf, hr⟩ := hC1
        have s1 := hf.size; have z0 := (hf.cell (p := ⟨g, 0, none⟩) hlg hng).trans hq0; have z1 := (hf.cell (p := ⟨g, 1, none⟩) hlg hng).trans hq1; have y0 := (hf.cell (p := ⟨g5, 0, none⟩) hpl hng5).trans hp0; have y1 := (hf.cell (p := ⟨g5, 1, none⟩) hpl hng5).trans hp1; have y2 := (hf.cell (p := ⟨g5, 2, none⟩) hpl hng5).trans hp2
        go_wp2
        exact FR.Flow.post_det ⟨hf, hr⟩ (AppZF.refl _) rfl rfl
      apply FR.Flow.det_step
      · go_light
        intro w1 hC1
        simp only [FR.Flow.fill, FR.Flow.after, FR.Flow.at_, List.nil_append, List.cons_append, List.getD_cons_zero, List.getD_cons_succ, FR.det, forall_eq, List.setIfInBounds_toArray, List.set_cons_zero, List.set_cons_succ, List.drop, List.length]
        obtain ⟨hf, hr⟩ := hC1
        have s1 := hf.size; have z0 := (hf.cell (p := ⟨g, 0, none⟩) hlg hng).trans hq0; have z1 := (hf.cell (p := ⟨g, 1, none⟩) hlg hng).trans hq1; have y0 := (hf.cell (p := ⟨g5, 0, none⟩) hpl hng5).trans hp0; have y1 := (hf.cell (p := ⟨g5, 1, none⟩) hpl hng5).trans hp1; have y2 := (hf.cell (p := ⟨g5, 2, none⟩) hpl hng5).trans hp2
        go_wp2
        exact FR.Flow.post_det ⟨hf, hr⟩ (AppZF.refl _) rfl rfl
      apply FR.Flow.det_step
      · go_light
        intro w1 hC1
        simp only [FR.Flow.fill, FR.Flow.after, FR.Flow.at_, List.nil_append, List.cons_append, List.getD_cons_zero, List.getD_cons_succ, FR.det, forall_eq, List.setIfInBounds_toArray, List.set_cons_zero, List.set_cons_succ, List.drop, List.length]
        obtain ⟨hf, hr⟩ := hC1
        have s1 := hf.size; have z0 := (hf.cell (p := ⟨g, 0, none⟩) hlg hng).trans hq0; have z1 := (hf.cell (p := ⟨g, 1, none⟩) hlg hng).trans hq1; have y0 := (hf.cell (p := ⟨g5, 0, none⟩) hpl hng5).trans hp0; have y1 := (hf.cell (p := ⟨g5, 1, none⟩) hpl hng5).trans hp1; have y2 := (hf.cell (p := ⟨g5, 2, none⟩) hpl hng5).trans hp2
        go_wp2
        exact FR.Flow.post_det ⟨hf, hr⟩ (AppZF.refl _) rfl rfl
      apply FR.Flow.det_step
      · go_light
        intro w1 hC1
        simp only [FR.Flow.fill, FR.Flow.after, FR.Flow.at_, List.nil_append, List.cons_append, List.getD_cons_zero, List.getD_cons_succ, FR.det, forall_eq, List.setIfInBounds_toArray, List.set_cons_zero, List.set_cons_succ, List.drop, List.length]
        obtain ⟨hf, hr⟩ := hC1
        have s1 := hf.size; have z0 := (hf.cell (p := ⟨g, 0, none⟩) hlg hng).trans hq0; have z1 := (hf.cell (p := ⟨g, 1, none⟩) hlg hng).trans hq1; have y0 := (hf.cell (p := ⟨g5, 0, none⟩) hpl hng5).trans hp0; have y1 := (hf.cell (p := ⟨g5, 1, none⟩) hpl hng5).trans hp1; have y2 := (hf.cell (p := ⟨g5, 2, none⟩) hpl hng5).trans hp2
        go_wp2
        exact FR.Flow.post_det ⟨hf, hr⟩ (AppZF.refl _) rfl rfl
      apply FR.Flow.det_step
      · go_light
        intro w1 hC1
        simp only [FR.Flow.fill, FR.Flow.after, FR.Flow.at_, List.nil_append, List.cons_append, List.getD_cons_zero, List.getD_cons_succ, FR.det, forall_eq, List.setIfInBounds_toArray, List.set_cons_zero, List.set_cons_succ, List.drop, List.length]
        obtain ⟨hf, hr⟩ := hC1
        have s1 := hf.size; have z0 := (hf.cell (p := ⟨g, 0, none⟩) hlg hng).trans hq0; have z1 := (hf.cell (p := ⟨g, 1, none⟩) hlg hng).trans hq1; have y0 := (hf.cell (p := ⟨g5, 0, none⟩) hpl hng5).trans hp0; have y1 := (hf.cell (p := ⟨g5, 1, none⟩) hpl hng5).trans hp1; have y2 := (hf.cell (p := ⟨g5, 2, none⟩) hpl hng5).trans hp2
        go_wp2
        exact FR.Flow.post_det ⟨hf, hr⟩ (AppZF.refl _) rfl rfl
      apply FR.Flow.det_step
      · go_light
        intro w1 hC1
        simp only [FR.Flow.fill, FR.Flow.after, FR.Flow.at_, List.nil_append, List.cons_append, List.getD_cons_zero, List.getD_cons_succ, FR.det, forall_eq, List.setIfInBounds_toArray, List.set_cons_zero, List.set_cons_succ, List.drop, List.length]
        obtain ⟨hf, hr⟩ := hC1
        have s1 := hf.size; have z0 := (hf.cell (p := ⟨g, 0, none⟩) hlg hng).trans hq0; have z1 := (hf.cell (p := ⟨g, 1, none⟩) hlg hng).trans hq1; have y0 := (hf.cell (p := ⟨g5, 0, none⟩) hpl hng5).trans hp0; have y1 := (hf.cell (p := ⟨g5, 1, none⟩) hpl hng5).trans hp1; have y2 := (hf.cell (p := ⟨g5, 2, none⟩) hpl hng5).trans hp2
        go_wp2
        exact FR.Flow.post_det ⟨hf, hr⟩ (AppZF.refl _) rfl rfl
      apply FR.Flow.det_step
      · go_light
        intro w1 hC1
        simp only [FR.Flow.fill, FR.Flow.after, FR.Flow.at_, List.nil_append, List.cons_append, List.getD_cons_zero, List.getD_cons_succ, FR.det, forall_eq, List.setIfInBounds_toArray, List.set_cons_zero, List.set_cons_succ, List.drop, List.length]
        obtain ⟨hf, hr⟩ := hC1
        have s1 := hf.size; have z0 := (hf.cell (p := ⟨g, 0, none⟩) hlg hng).trans hq0; have z1 := (hf.cell (p := ⟨g, 1, none⟩) hlg hng).trans hq1; have y0 := (hf.cell (p := ⟨g5, 0, none⟩) hpl hng5).trans hp0; have y1 := (hf.cell (p := ⟨g5, 1, none⟩) hpl hng5).trans hp1; have y2 := (hf.cell (p := ⟨g5, 2, none⟩) hpl hng5).trans hp2
        go_wp2
        exact FR.Flow.post_det ⟨hf, hr⟩ (AppZF.refl _) rfl rfl
      apply FR.Flow.det_step
      · go_light
        intro w1 hC1
        simp only [FR.Flow.fill, FR.Flow.after, FR.Flow.at_, List.nil_append, List.cons_append, List.getD_cons_zero, List.getD_cons_succ, FR.det, forall_eq, List.setIfInBounds_toArray, List.set_cons_zero, List.set_cons_succ, List.drop, List.length]
        obtain ⟨hf, hr⟩ := hC1
        have s1 := hf.size; have z0 := (hf.cell (p := ⟨g, 0, none⟩) hlg hng).trans hq0; have z1 := (hf.cell (p := ⟨g, 1, none⟩) hlg hng).trans hq1; have y0 := (hf.cell (p := ⟨g5, 0, none⟩) hpl hng5).trans hp0; have y1 := (hf.cell (p := ⟨g5, 1, none⟩) hpl hng5).trans hp1; have y2 := (hf.cell (p := ⟨g5, 2, none⟩) hpl hng5).trans hp2
        go_wp2
        exact FR.Flow.post_det ⟨hf, hr⟩ (AppZF.refl _) rfl rfl
      apply FR.Flow.det_step
      · go_light
        intro w1 hC1
        simp only [FR.Flow.fill, FR.Flow.after, FR.Flow.at_, List.nil_append, List.cons_append, List.getD_cons_zero, List.getD_cons_succ, FR.det, forall_eq, List.setIfInBounds_toArray, List.set_cons_zero, List.set_cons_succ, List.drop, List.length]
        obtain ⟨hf, hr⟩ := hC1
        have s1 := hf.size; have z0 := (hf.cell (p := ⟨g, 0, none⟩) hlg hng).trans hq0; have z1 := (hf.cell (p := ⟨g, 1, none⟩) hlg hng).trans hq1; have y0 := (hf.cell (p := ⟨g5, 0, none⟩) hpl hng5).trans hp0; have y1 := (hf.cell (p := ⟨g5, 1, none⟩) hpl hng5).trans hp1; have y2 := (hf.cell (p := ⟨g5, 2, none⟩) hpl hng5).trans hp2
        go_wp2
        exact FR.Flow.post_det ⟨hf, hr⟩ (AppZF.refl _) rfl rfl
      apply FR.Flow.det_step
      · go_light
        intro w1 hC1
        simp only [FR.Flow.fill, FR.Flow.after, FR.Flow.at_, List.nil_append, List.cons_append, List.getD_cons_zero, List.getD_cons_succ, FR.det, forall_eq, List.setIfInBounds_toArray, List.set_cons_zero, List.set_cons_succ, List.drop, List.length]
        obtain ⟨hf, hr⟩ := hC1
        have s1 := hf.size; have z0 := (hf.cell (p := ⟨g, 0, none⟩) hlg hng).trans hq0; have z1 := (hf.cell (p := ⟨g, 1, none⟩) hlg hng).trans hq1; have y0 := (hf.cell (p := ⟨g5, 0, none⟩) hpl hng5).trans hp0; have y1 := (hf.cell (p := ⟨g5, 1, none⟩) hpl hng5).trans hp1; have y2 := (hf.cell (p := ⟨g5, 2, none⟩) hpl hng5).trans hp2
        go_wp2
        exact FR.Flow.post_det ⟨hf, hr⟩ (AppZF.refl _) rfl rfl
      refine FR.Flow.st_step (frSt (ZP hs p r T (g + 1) A1 j c1) (g + 1) 41 3 wS.heap.size A1 j c1 (j + 1) (PB T L (g + 1) A1 j c1) (PB.fr)) ?_ ?_
      · go_light
        intro w1 hC1
        simp only [FR.Flow.fill, FR.Flow.after, FR.Flow.at_, List.nil_append, List.cons_append, List.getD_cons_zero, List.getD_cons_succ, FR.det, forall_eq, List.setIfInBounds_toArray, List.set_cons_zero, List.set_cons_succ, List.drop, List.length]
        obtain ⟨hf, hr⟩ := hC1
        have s1 := hf.size; have z0 := (hf.cell (p := ⟨g, 0, none⟩) hlg hng).trans hq0; have z1 := (hf.cell (p := ⟨g, 1, none⟩) hlg hng).trans hq1; have y0 := (hf.cell (p := ⟨g5, 0, none⟩) hpl hng5).trans hp0; have y1 := (hf.cell (p := ⟨g5, 1, none⟩) hpl hng5).trans hp1; have y2 := (hf.cell (p := ⟨g5, 2, none⟩) hpl hng5).trans hp2
        go_wp2_with (go_at_call 18; refine (cloneB_any A' L c' T w1 B (HRT.out.below' (hf.below (B := B) (by omega) (fun k hk => by have := HO1.out k hk; omega)) (Nat.le_refl _)) (by omega) (by omega)).mono ?_; rintro e' w8 ⟨A8, n8, c8, rfl, hl8, hr8, hb8⟩)
        obtain rfl : L = n8 := hTl.symm.trans hl8
        have hf8 : Fr (fun k => (Value.slice A1 j c1).ownBlock = some k) w1 w8 := (Fr.of_grow hb8).mono fun _ _ h => h.elim
        exact FR.Flow.post_st ⟨Fr.trans' hf hf8, hr.grow hb8⟩ (AppZF.grow HZ.out hb8) rfl rfl ⟨A8, c8, rfl, (OwnBs.of_row hr8 HTB.out).base (by omega), fun k hk e => by have h1 := (hr8.lt k hk).1; have h2 := (hr.lt k e).2; omega⟩
      refine FR.Flow.st_step (frSt (ZP hs p r T (g + 1) A1 j c1) (g + 1) 41 3 wS.heap.size A1 j c1 (j + 1) (PA p r T L (g + 1) A1 j c1) (PA.fr)) ?_ ?_
      · go_light
        intro w1 hC1
        simp only [FR.Flow.fill, FR.Flow.after, FR.Flow.at_, List.nil_append, List.cons_append, List.getD_cons_zero, List.getD_cons_succ, FR.det, forall_eq, List.setIfInBounds_toArray, List.set_cons_zero, List.set_cons_succ, List.drop, List.length]
        rintro _ ⟨A8, c8, rfl, ho8, hn8⟩
        obtain ⟨hf, hr⟩ := hC1
        have s1 := hf.size; have z0 := (hf.cell (p := ⟨g, 0, none⟩) hlg hng).trans hq0; have z1 := (hf.cell (p := ⟨g, 1, none⟩) hlg hng).trans hq1; have y0 := (hf.cell (p := ⟨g5, 0, none⟩) hpl hng5).trans hp0; have y1 := (hf.cell (p := ⟨g5, 1, none⟩) hpl hng5).trans hp1; have y2 := (hf.cell (p := ⟨g5, 2, none⟩) hpl hng5).trans hp2
        go_wp2
        exact FR.Flow.post_st ⟨hf, hr⟩ (AppZF.refl _) rfl rfl ⟨A8, c8, rfl, ho8, hn8⟩
      refine FR.Flow.st_step (frSt (ZP hs p r T (g + 1) A1 j c1) (g + 1) 41 3 wS.heap.size A1 j c1 (j + 1) (PC p r T L (g + 1) A1 j c1 wS.heap.size) (PC.fr)) ?_ ?_
      · go_light
        intro w1 hC1
        simp only [FR.Flow.fill, FR.Flow.after, FR.Flow.at_, List.nil_append, List.cons_append, List.getD_cons_zero, List.getD_cons_succ, FR.det, forall_eq, List.setIfInBounds_toArray, List.set_cons_zero, List.set_cons_succ, List.drop, List.length]
        rintro _ ⟨A8, c8, rfl, ho8, hn8⟩
        obtain ⟨hf, hr⟩ := hC1
        have s1 := hf.size; have z0 := (hf.cell (p := ⟨g, 0, none⟩) hlg hng).trans hq0; have z1 := (hf.cell (p := ⟨g, 1, none⟩) hlg hng).trans hq1; have y0 := (hf.cell (p := ⟨g5, 0, none⟩) hpl hng5).trans hp0; have y1 := (hf.cell (p := ⟨g5, 1, none⟩) hpl hng5).trans hp1; have y2 := (hf.cell (p := ⟨g5, 2, none⟩) hpl hng5).trans hp2
        go_wp2
        exact FR.Flow.post_st ⟨hf.alloc _, hr.alloc _⟩ (AppZF.grow HZ.out ((Below.refl _ _).alloc (Nat.le_refl _) _)) rfl rfl ⟨w1.heap.size, A8, c8, rfl, ho8.grow ((Below.refl _ _).alloc (Nat.le_refl _) _), hn8, reads_cells w1 41 (Pg.cells ⟨p, r, A8, L, c8, T⟩) rfl, by simp, fun e => by have h2 := (hr.lt _ e).2; omega⟩
      refine FR.Flow.st_step (appzSt (ZP hs p r T (g + 1) A1 j c1) (g + 1) 41 3 wS.heap.size A1 j c1 (j + 1)) ?_ ?_
      · go_light
        intro w1 hC1
        simp only [FR.Flow.fill, FR.Flow.after, FR.Flow.at_, List.nil_append, List.cons_append, List.getD_cons_zero, List.getD_cons_succ, FR.det, forall_eq, List.setIfInBounds_toArray, List.set_cons_zero, List.set_cons_succ, List.drop, List.length]
        rintro _ ⟨g6, A8, c8, rfl, ho8, hn8, hrd6, hg6, hn6⟩
        obtain ⟨hf, hr⟩ := hC1
        have s1 := hf.size; have z0 := (hf.cell (p := ⟨g, 0, none⟩) hlg hng).trans hq0; have z1 := (hf.cell (p := ⟨g, 1, none⟩) hlg hng).trans hq1; have y0 := (hf.cell (p := ⟨g5, 0, none⟩) hpl hng5).trans hp0; have y1 := (hf.cell (p := ⟨g5, 1, none⟩) hpl hng5).trans hp1; have y2 := (hf.cell (p := ⟨g5, 2, none⟩) hpl hng5).trans hp2
        refine wpList_append_row_z w1 rfl (.tmp 34) (.tmp 45) 23 rfl (ZP hs p r T (g + 1) A1 j c1) (g + 1) 41 i1 (.agg #[.int .i64 0, .int .i64 0, .slice none 0 0]) 3 40 Tryd.underlying23 hi1 hz3 hz4 hz5 rfl (by decide) A1 j c1 (hs.flatMap Pg.cells) rfl hr (g6 + 1) (some ⟨g6, 0, none⟩) 1 1 (Pg.cells ⟨p, r, A8, L, c8, T⟩) rfl hrd6 (one_pg _) (by unfold maxLen; omega) (by omega) (by omega) (by decide) wS.heap.size s1 (fun k hk => by have := HO1.out k hk; omega) HZ.out ⟨⟨p, r, A8, L, c8, T⟩, rfl, rfl, rfl, rfl, ⟨ho8, HPR.out.1, HPR.out.2, by show L ≤ _; omega⟩, hn8⟩ ?_
        intro A9 c9 w9 hA9 hR9 hr9 hg9
        exact FR.Flow.post_st ⟨hf.grown hg9 (fun k e _ => e), hr9⟩ hR9 rfl rfl ⟨A9, c9, rfl, hA9⟩
      apply FR.Flow.det_step
      · go_light
        intro w1 hC1
        simp only [FR.Flow.fill, FR.Flow.after, FR.Flow.at_, List.nil_append, List.cons_append, List.getD_cons_zero, List.getD_cons_succ, FR.det, forall_eq, List.setIfInBounds_toArray, List.set_cons_zero, List.set_cons_succ, List.drop, List.length]
        obtain ⟨hf, hr⟩ := hC1
        have s1 := hf.size; have z0 := (hf.cell (p := ⟨g, 0, none⟩) hlg hng).trans hq0; have z1 := (hf.cell (p := ⟨g, 1, none⟩) hlg hng).trans hq1; have y0 := (hf.cell (p := ⟨g5, 0, none⟩) hpl hng5).trans hp0; have y1 := (hf.cell (p := ⟨g5, 1, none⟩) hpl hng5).trans hp1; have y2 := (hf.cell (p := ⟨g5, 2, none⟩) hpl hng5).trans hp2
        go_wp2
        exact FR.Flow.post_det ⟨hf, hr⟩ (AppZF.refl _) rfl rfl
      intro w1 hC1
      simp only [FR.Flow.fill, FR.Flow.after, FR.Flow.at_, List.nil_append, List.cons_append, List.getD_cons_zero, List.getD_cons_succ, FR.det, forall_eq, List.setIfInBounds_toArray, List.set_cons_zero, List.set_cons_succ, List.drop, List.length]
      rintro _ - _ - _ - _ ⟨A9, c9, rfl, hA9⟩
      obtain ⟨hf, hr⟩ := hC1
      obtain ⟨ys, hz9, hA9⟩ := hA9
      obtain ⟨x, rfl, hxp, hxr, hxs, hxo, hxn⟩ := hz9
      have KEY := ImSt.app (g := g) HS5.out hf hA9.row hxo (hf.cell (p := ⟨g, 0, none⟩) hlg hng) hng
      obtain ⟨hblk, hst9, hfr9⟩ := KEY
      have k9 := hblk.cell
      have l9 := hblk.lt
      have f9 := hblk.free
      have HS9 := Lib.hid hst9
      have HF9 := Lib.hid (hfr.out.trans ((FrG.of_below HE5.out (by have := HG5.out; omega)).trans hfr9))
      have HK := Lib.hid (HSN.out x (by show (x.p, x.r, x.xs) = _; rw [hxp, hxr, hxs]))
      clear hA9 hxo hxn hblk hst9 hfr9 hq0 hq1 hp0 hp1 hp2 hr hf HO1
      go_wp2
      go_roundw
      case rel => exact ⟨j + 1, _, _, _, by omega, by go_num, HK, HS9, HF9⟩
      case measure => simp [intOf]; omega
end Go.Proofs.YtdgjcjhdclihpaaDoor
