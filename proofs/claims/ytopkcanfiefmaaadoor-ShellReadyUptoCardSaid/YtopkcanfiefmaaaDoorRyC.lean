/- ringref4.ShellReady f5 (printed by mkRy.py). -/
import Derived.Test.YtopkcanfiefmaaaDoorRyB
import Derived.Test.YtopkcanfiefmaaaDoorExE
namespace Go.Proofs.YtopkcanfiefmaaaDoor
open Go.RowKit
set_option maxHeartbeats 400000
set_option linter.unusedVariables false
set_option linter.unusedSimpArgs false
set_option maxHeartbeats 8000000 in
set_option maxRecDepth 100000 in
theorem fieldsReady_any (WA : Option Addr) (wn wc : Nat) (ws : List Tk) (RA : Option Addr) (rn rc : Nat) (rs : List Rd) (VA : Option Addr) (vn vc : Nat) (vars : List Vr) (k : Int) (w : World) (B : Nat) (h : RIn w B WA wn ws RA rn rs VA vn vars) (hB : B ≤ w.heap.size) (hv : VarOk w) (h0 : -9223372036854775808 ≤ k) (h1 : k ≤ 9223372036854775807) :
    Calls Tryd.prog 5 #[.agg #[.slice WA wn wc, .slice RA rn rc], .slice VA vn vc, .int .i64 k] w (RyPost (readyW (itoaS k) vars Sm.zero ws rs) w) := by
  obtain ⟨i9, hi9, hy0, hy1, hy2⟩ := info_parts infoS
  obtain ⟨W, hW⟩ : ∃ W, W = ((w.alloc (.cells #[.slice WA wn wc, .slice RA rn rc] 25)).alloc (.cells zs 29)).alloc (.cells zs 29) := ⟨_, rfl⟩
  have hx0 : Blk W w.heap.size #[.slice WA wn wc, .slice RA rn rc] 25 := by rw [hW]; exact ((Blk.new _ _ _).alloc _).alloc _
  have hx1 : Blk W (w.heap.size + 1) zs 29 := by rw [hW]; have := (Blk.new (w.alloc (.cells #[.slice WA wn wc, .slice RA rn rc] 25)) zs 29).alloc (.cells zs 29); simpa using this
  have hx2 : Blk W (w.heap.size + 2) zs 29 := by rw [hW]; have := Blk.new ((w.alloc (.cells #[.slice WA wn wc, .slice RA rn rc] 25)).alloc (.cells zs 29)) zs 29; simpa using this
  have hb0 : Below w.heap.size w W := by rw [hW]; exact (((Below.refl _ _).alloc (Nat.le_refl _) _).alloc (by simp) _).alloc (by simp; omega) _
  have hsW : W.heap.size = w.heap.size + 3 := by rw [hW]; simp
  have hl1 := hv.lt
  have HIN := Lib.hid (h.below hb0 hB)
  have HVO := Lib.hid (hv.below hb0 hl1)
  obtain ⟨g0, hg0⟩ : ∃ g, w.heap.size = g := ⟨_, rfl⟩
  rw [hg0] at hx0 hx1 hx2 hb0 hsW hB hl1
  obtain ⟨gr, hgr⟩ : ∃ gr, g0 + 1 = gr := ⟨_, rfl⟩
  obtain ⟨g, hg⟩ : ∃ g, gr + 1 = g := ⟨_, rfl⟩
  rw [hgr] at hx1
  rw [show g0 + 2 = g by omega] at hx2
  have hfd : SmAt W (g + 1) g Sm.zero := ⟨none, 0, 0, hx2, Row.nil _ _ _ _, rfl, by omega, by omega⟩
  have HFD := Lib.hid hfd
  have HX0 := Lib.hid hx0
  have HX1 := Lib.hid hx1
  have HB0 := Lib.hid hb0
  have HW := Lib.hid hW
  have HG0 := Lib.hid hg0
  have hl0 : g0 < gr := by omega
  have hlr : gr < g := by omega
  have hsW' : g < W.heap.size := by omega
  have HGR := Lib.hid hgr
  have HG := Lib.hid hg
  have hc0 := hx0.cell
  have hlt0 := hx0.lt
  clear hW hb0 hx0 hx1 hx2 h hv hfd hsW hg
  have HE := Lib.hid (fun (t : Tk) (ht : t ∈ ws ∨ ∃ r ∈ rs, r.tk = t) (W' : World) (hb : Below g W W') => fields_any t.op t.A t.n t.c t.kk t.ps VA vn vc vars k W' B ((HIN.out.below hb (by omega)).one (by
    rcases ht with ht | ⟨r, hr, rfl⟩
    · exact (HIN.out.wok t ht).below hb (by omega)
    · exact (HIN.out.rok r hr).below hb (by omega))) (by have := hb.size; omega) (HVO.out.below hb (by omega)) h0 h1)
  obtain ⟨T, hTT⟩ : ∃ T, itoaS k = T := ⟨_, rfl⟩
  rw [hTT] at HE ⊢
  clear hTT
  have hfw := HIN.out.feww
  have hfr := HIN.out.fewr
  have hwl := HIN.out.wds.2
  have hrl := HIN.out.rds.2
  go_enter Tryd.func5, Tryd.ntmps5
  go_wp2_with fail
  rw [HG.out, ← HW.out]
  clear HW hg0 hgr
  go_loopw [20] (fun i wr => ∃ (j : Nat) (s : Sm), j ≤ wn ∧ i = .int .i64 j ∧ Hid (readyW T vars Sm.zero ws rs = readyW T vars s (ws.drop j) rs) ∧ s.args.length ≤ j * 40 ∧ Hid (SmAt wr (g + 1) g s) ∧ Hid (FrG (g + 1) g W wr)) (fun i _ => wn - (intOf i).toNat)
  case atStart => exact ⟨0, Sm.zero, Nat.zero_le _, rfl, Lib.hid rfl, Nat.le_refl _, HFD, Lib.hid (FrG.refl _ _ _)⟩
  case round =>
    obtain ⟨j, s, hj, rfl, hf, hn1, hfa, hfr'⟩ := hrel
    have hbg : Below g W wr := hfr'.out.below (by omega) (by omega)
    have hsw2 := hbg.size
    have HBG := Lib.hid hbg
    clear hbg
    by_cases hjn : j < wn
    rotate_left
    · obtain rfl : j = wn := by omega
      have HF := Lib.hid (hf.out.trans (by rw [List.drop_of_length_le (by omega), readyW_nil]))
      have hx0' := HX0.out.fr hfr'.out (fun h => by rcases h with h | h <;> omega)
      have hc0' := hx0'.cell
      have hl0' := hx0'.lt
      clear hf hx0' hc0
      go_wp2_with fail
      go_loopw [44] (fun i wr => ∃ (j : Nat) (s : Sm), j ≤ rn ∧ i = .int .i64 j ∧ Hid (readyW T vars Sm.zero ws rs = readyR T vars s (rs.drop j)) ∧ s.args.length ≤ 41943040 ∧ Hid (SmAt wr (g + 1) g s) ∧ Hid (FrG (g + 1) g W wr)) (fun i _ => rn - (intOf i).toNat)
      case atStart => exact ⟨0, s, Nat.zero_le _, rfl, Lib.hid (by rw [List.drop_zero]; exact HF.out), by omega, hfa, hfr'⟩
      case round =>
        obtain ⟨j, s, hj, rfl, hf, hn1, hfa, hfr'⟩ := hrel
        have hbg : Below g W wr := hfr'.out.below (by omega) (by omega)
        have hsw2 := hbg.size
        have HBG := Lib.hid hbg
        clear hbg HF
        by_cases hjn : j < rn
        rotate_left
        · obtain rfl : j = rn := by omega
          have HF := Lib.hid (hf.out.trans (by rw [List.drop_of_length_le (by omega), readyR_nil]))
          obtain ⟨A, n, c, hst⟩ := hfa.out
          have HST := Lib.hid hst
          have hc6 := hst.blk.cell
          have hl6 := hst.blk.lt
          have hf6 := hst.blk.free
          have hn6 : s.args.length = n := hst.len
          have hr9 := HX1.out.fr hfr'.out (fun h => by rcases h with h | h <;> omega)
          have hrcc := hr9.cell
          have hrcf := hr9.free
          have hrcl := hr9.lt
          have hgg : ¬ gr = g := by omega
          have HWB := Lib.hid (fun (v0 v1 v2 v3 : Value) => ((((HB0.out.trans (HBG.out.mono (by omega))).setCell (p := ⟨gr, 0, none⟩) (by show g0 ≤ gr; omega) v0).setCell (p := ⟨gr, 1, none⟩) (by show g0 ≤ gr; omega) v1).setCell (p := ⟨gr, 2, none⟩) (by show g0 ≤ gr; omega) v2).setCell (p := ⟨gr, 3, none⟩) (by show g0 ≤ gr; omega) v3)
          clear hst hr9 hf hfa
          by_cases hz : n = 0
          · have HL := Lib.hid (HF.out.trans (if_pos (by omega) : lastS s = (Sm.zero, 3)))
            have hzi : (n : Int) = 0 := by omega
            go_wp2
            exact bodyPost_ret (v := .tuple #[.agg #[.slice none 0 0, .string ⟨#[]⟩, .string ⟨#[]⟩, .bool false], .int .i64 3]) (by simp [results, Tryd.results5, go_sem, hrcc, hrcl]) rfl (RyPost.bad HL.out (by rw [HG0.out]; exact HWB.out _ _ _ _))
          · have HL := Lib.hid (HF.out.trans (if_neg (by omega) : lastS s = (s, 0)))
            have hzi : ¬ (n : Int) = 0 := by omega
            have hne : (Value.slice A n c).ownBlock ≠ some gr := fun e => by have e1 : g + 1 ≤ gr := (HST.out.row.lt _ e).1; omega
            have HRW := Lib.hid (fun (v0 v1 v2 v3 : Value) => (((HST.out.row.setCell (p := ⟨gr, 0, none⟩) hne v0).setCell (p := ⟨gr, 1, none⟩) hne v1).setCell (p := ⟨gr, 2, none⟩) hne v2).setCell (p := ⟨gr, 3, none⟩) hne v3)
            clear hne
            go_wp2
            refine bodyPost_ret (v := .tuple #[.agg #[.slice A n c, .string s.inp, .string s.out, .bool s.more], .int .i64 0]) (by simp [results, Tryd.results5, go_sem, hrcc, hrcl]) rfl ?_
            rw [HL.out]
            exact ⟨A, n, c, rfl, ⟨by rw [strC_flat]; exact (HRW.out _ _ _ _).reads, hn6⟩, by omega, by rw [HG0.out]; exact HWB.out _ _ _ _⟩
        obtain ⟨bb, o, rfl, hbb, hm, hcs⟩ := RS.at_ (cl := Rd.cells) (s := 4) (fun _ => rfl) Rd.zero HIN.out.rds hjn
        have x0 := (HBG.out.cell (p := ⟨bb, o + j * 4 + 0, none⟩) (show bb < g by omega)).trans (hcs 0 _ rfl)
        have x1 := (HBG.out.cell (p := ⟨bb, o + j * 4 + 1, none⟩) (show bb < g by omega)).trans (hcs 1 _ rfl)
        have x2 := (HBG.out.cell (p := ⟨bb, o + j * 4 + 2, none⟩) (show bb < g by omega)).trans (hcs 2 _ rfl)
        have x3 := (HBG.out.cell (p := ⟨bb, o + j * 4 + 3, none⟩) (show bb < g by omega)).trans (hcs 3 _ rfl)
        have HT := Lib.hid (HE.out _ (.inr ⟨_, hm, rfl⟩))
        rw [drop_rd (by omega)] at hf
        clear hcs hm hc0' hl0'
        generalize rs.getD j Rd.zero = t at *
        obtain ⟨kind, top, tA, tn, tc, tkk, tps⟩ := t
        dsimp only at x0 x1 x2 x3 HT
        rw [Nat.add_zero] at x0
        obtain ⟨g5, hg5⟩ : ∃ g, wr.heap.size = g := ⟨_, rfl⟩
        have hB5 : Below wr.heap.size wr (wr.alloc (.cells #[.string kind, .string top, .slice tA tn tc, .int .i64 tkk] 41)) := (Below.refl _ _).alloc (Nat.le_refl _) _
        have hb5 := Blk.new wr #[.string kind, .string top, .slice tA tn tc, .int .i64 tkk] 41
        rw [hg5] at hb5
        have HC := Lib.hid (HT.out _ (HBG.out.trans (hB5.mono (by omega))))
        have HB5 := Lib.hid hB5
        have HK5 := Lib.hid hb5
        have hs5 : (wr.alloc (.cells #[.string kind, .string top, .slice tA tn tc, .int .i64 tkk] 41)).heap.size = wr.heap.size + 1 := by simp
        clear HT hB5 hb5
        have HP := Lib.hid (rfl : expandS T top tps vars = expandS T top tps vars)
        generalize hp : expandS T top tps vars = p at HC
        clear HP
        obtain ⟨x, er⟩ := p
        unfold XPost at HC
        dsimp only at HC
        have hkn : (j : Int) < rn := by omega
        have hk0 : (0 : Int) ≤ j := by omega
        by_cases he : er = 0
        rotate_left
        · have HF := Lib.hid (hf.out.trans (readyR_err (r := ⟨kind, top, tA, tn, tc, tkk, tps⟩) hp he))
          have dne : (er != 0) = true := by simpa using he
          clear hp hf he hg5
          go_wp2_with fail
          refine HC.out.mono ?_
          rintro e w6 ⟨A1, n1, c1, rfl, hr1, hn1', hb6⟩
          have HB6 := Lib.hid (HB5.out.trans (hb6.mono (by omega)))
          have hr9 := (HX1.out.fr hfr'.out (fun h => by rcases h with h | h <;> omega)).fr (Fr.of_grow HB6.out) (fun h => h)
          have hrcc := hr9.cell
          have hrcf := hr9.free
          have hrcl := hr9.lt
          clear hr9 hr1 hb6
          go_wp2
          exact bodyPost_ret (v := .tuple #[.agg #[.slice none 0 0, .string ⟨#[]⟩, .string ⟨#[]⟩, .bool false], .int .i64 er]) (by simp [results, Tryd.results5, go_sem, hrcc, hrcl]) rfl (RyPost.bad HF.out (by rw [HG0.out]; exact ((((HB0.out.trans ((HBG.out.trans (HB6.out.mono (by omega))).mono (by omega))).setCell (p := ⟨gr, 0, none⟩) (by show g0 ≤ gr; omega) _).setCell (p := ⟨gr, 1, none⟩) (by show g0 ≤ gr; omega) _).setCell (p := ⟨gr, 2, none⟩) (by show g0 ≤ gr; omega) _).setCell (p := ⟨gr, 3, none⟩) (by show g0 ≤ gr; omega) _))
        subst he
        go_wp2_with fail
        refine HC.out.mono ?_
        rintro e w6 ⟨A1, n1, c1, rfl, hr1, hn1', hb6⟩
        have HB6 := Lib.hid (HB5.out.trans (hb6.mono (by omega)))
        have hx1 : x.length = n1 := hr1.2
        have hk6 := HK5.out.fr (Fr.of_grow hb6) (fun h => h)
        have y0 := (hk6.cell 0).trans (show _ = some (Value.string kind) from rfl)
        have yl := hk6.lt
        clear hk6
        by_cases hbad : x.length ≠ 1 ∨ (x.getD 0 ByteArray.empty).size = 0
        · have HF := Lib.hid (hf.out.trans (readyR_form (r := ⟨kind, top, tA, tn, tc, tkk, tps⟩) hp hbad))
          have hr9 := (HX1.out.fr hfr'.out (fun h => by rcases h with h | h <;> omega)).fr (Fr.of_grow HB6.out) (fun h => h)
          have hrcc := hr9.cell
          have hrcf := hr9.free
          have hrcl := hr9.lt
          have HWB := Lib.hid (fun (v0 v1 v2 v3 : Value) => ((((HB0.out.trans ((HBG.out.trans (HB6.out.mono (by omega))).mono (by omega))).setCell (p := ⟨gr, 0, none⟩) (by show g0 ≤ gr; omega) v0).setCell (p := ⟨gr, 1, none⟩) (by show g0 ≤ gr; omega) v1).setCell (p := ⟨gr, 2, none⟩) (by show g0 ≤ gr; omega) v2).setCell (p := ⟨gr, 3, none⟩) (by show g0 ≤ gr; omega) v3)
          clear hr9 hb6 hf hp
          by_cases hone : n1 = 1
          · subst hone
            obtain ⟨f, rfl⟩ : ∃ f, x = [f] := by
              match x, hx1 with
              | [f], _ => exact ⟨f, rfl⟩
            have hf0 : f.size = 0 := by simpa using hbad
            have hff := bytes_none hf0
            obtain ⟨b1, o1, rfl, hb1, _, hcs1⟩ := RS.at_ (cl := strC) (s := 1) strC_len ByteArray.empty hr1 (show 0 < 1 by omega)
            have z0 := hcs1 0 _ rfl
            simp only [Nat.zero_mul, Nat.add_zero, List.getD_cons_zero] at z0
            clear hcs1 hr1 hbad hx1
            go_wp2
            exact bodyPost_ret (v := .tuple #[.agg #[.slice none 0 0, .string ⟨#[]⟩, .string ⟨#[]⟩, .bool false], .int .i64 3]) (by simp [results, Tryd.results5, go_sem, hrcc, hrcl]) rfl (RyPost.bad HF.out (by rw [HG0.out]; exact HWB.out _ _ _ _))
          · have hoi : ¬ (n1 : Int) = 1 := by omega
            clear hr1 hbad hx1
            go_wp2
            exact bodyPost_ret (v := .tuple #[.agg #[.slice none 0 0, .string ⟨#[]⟩, .string ⟨#[]⟩, .bool false], .int .i64 3]) (by simp [results, Tryd.results5, go_sem, hrcc, hrcl]) rfl (RyPost.bad HF.out (by rw [HG0.out]; exact HWB.out _ _ _ _))
        obtain ⟨hx2, hx3⟩ : x.length = 1 ∧ (x.getD 0 ByteArray.empty).size ≠ 0 := by
          refine ⟨Classical.byContradiction fun h => hbad (.inl h), fun h => hbad (.inr h)⟩
        obtain rfl : n1 = 1 := by omega
        obtain ⟨f, rfl⟩ : ∃ f, x = [f] := by
          match x, hx1 with
          | [f], _ => exact ⟨f, rfl⟩
        have hf0 : f.size ≠ 0 := hx3
        have hff := bytes_some hf0
        have HF := Lib.hid (hf.out.trans (readyR_step (r := ⟨kind, top, tA, tn, tc, tkk, tps⟩) hp hf0))
        obtain ⟨b1, o1, rfl, hb1, _, hcs1⟩ := RS.at_ (cl := strC) (s := 1) strC_len ByteArray.empty hr1 (show 0 < 1 by omega)
        have z0 := hcs1 0 _ rfl
        simp only [Nat.zero_mul, Nat.add_zero, List.getD_cons_zero] at z0
        obtain ⟨A, n, c, hst⟩ := hfa.out
        have h6 := hst.below HB6.out
        have HST := Lib.hid h6
        have hc6 := h6.blk.cell
        have hl6 := h6.blk.lt
        have hf6 := h6.blk.free
        have HF6 := Lib.hid (hfr'.out.trans (FrG.of_below HB6.out (by omega)))
        clear hcs1 hr1 hbad hx1 hx2 hx3 hf hp hf0 hb6 h6 hst hfa
        cases q1 : (kind.toList == [60]) with
        | true =>
          have HS9 := Lib.hid (HST.out.setIn f)
          rw [redir_in q1] at HF
          go_wp2
          go_roundw
          case rel => exact ⟨j + 1, _, by omega, by go_num, HF, hn1, Lib.hid ⟨_, _, _, HS9.out⟩, Lib.hid (HF6.out.setCell (.inl rfl) _)⟩
          case measure => simp [intOf]; omega
        | false =>
          cases q2 : (kind.toList == [62]) with
          | true =>
            have q3 : (kind.toList == [62, 62]) = false := by rw [show kind.toList = [62] by simpa using q2]; rfl
            have HS9 := Lib.hid (HST.out.setOut f false)
            rw [redir_cut q1 q2] at HF
            go_wp2
            go_roundw
            case rel => exact ⟨j + 1, _, by omega, by go_num, HF, hn1, Lib.hid ⟨_, _, _, HS9.out⟩, Lib.hid ((HF6.out.setCell (.inl rfl) _).setCell (.inl rfl) _)⟩
            case measure => simp [intOf]; omega
          | false =>
            cases q3 : (kind.toList == [62, 62]) with
            | true =>
              have HS9 := Lib.hid (HST.out.setOut f true)
              rw [redir_more q1 q2 q3] at HF
              go_wp2
              go_roundw
              case rel => exact ⟨j + 1, _, by omega, by go_num, HF, hn1, Lib.hid ⟨_, _, _, HS9.out⟩, Lib.hid ((HF6.out.setCell (.inl rfl) _).setCell (.inl rfl) _)⟩
              case measure => simp [intOf]; omega
            | false =>
              rw [redir_none q1 q2 q3] at HF
              go_wp2
              go_roundw
              case rel => exact ⟨j + 1, s, by omega, by go_num, HF, hn1, Lib.hid ⟨_, _, _, HST.out⟩, HF6⟩
              case measure => simp [intOf]; omega
    obtain ⟨bb, o, rfl, hbb, hm, hcs⟩ := RS.at_ (cl := Tk.cells) (s := 3) (fun _ => rfl) Tk.zero HIN.out.wds hjn
    have x0 := (HBG.out.cell (p := ⟨bb, o + j * 3 + 0, none⟩) (show bb < g by omega)).trans (hcs 0 _ rfl)
    have x1 := (HBG.out.cell (p := ⟨bb, o + j * 3 + 1, none⟩) (show bb < g by omega)).trans (hcs 1 _ rfl)
    have x2 := (HBG.out.cell (p := ⟨bb, o + j * 3 + 2, none⟩) (show bb < g by omega)).trans (hcs 2 _ rfl)
    have HT := Lib.hid (HE.out _ (.inl hm))
    rw [drop_tk (by omega)] at hf
    have hxl := expandS_few T (ws.getD j Tk.zero).op (ws.getD j Tk.zero).ps vars
    clear hcs hm hc0
    generalize ws.getD j Tk.zero = t at *
    have hB5 : Below wr.heap.size wr (wr.alloc (.cells #[.string t.op, .slice t.A t.n t.c, .int .i64 t.kk] 37)) := (Below.refl _ _).alloc (Nat.le_refl _) _
    have HC := Lib.hid (HT.out _ (HBG.out.trans (hB5.mono (by omega))))
    have HB5 := Lib.hid hB5
    have hs5 : (wr.alloc (.cells #[.string t.op, .slice t.A t.n t.c, .int .i64 t.kk] 37)).heap.size = wr.heap.size + 1 := by simp
    clear HT hB5
    generalize hp : expandS T t.op t.ps vars = p at HC hxl
    obtain ⟨x, er⟩ := p
    obtain ⟨top, tA, tn, tc, tkk, tps⟩ := t
    dsimp only at x0 x1 x2 hp hxl HC HB5 hs5
    rw [Nat.add_zero] at x0
    unfold XPost at HC
    dsimp only at HC
    have hkn : (j : Int) < wn := by omega
    have hk0 : (0 : Int) ≤ j := by omega
    by_cases he : er = 0
    rotate_left
    · have HF := Lib.hid (hf.out.trans (readyW_err hp he))
      have dne : (er != 0) = true := by simpa using he
      clear hp hf he
      go_wp2_with fail
      refine HC.out.mono ?_
      rintro e w6 ⟨A1, n1, c1, rfl, hr1, hn1', hb6⟩
      have HB6 := Lib.hid (HB5.out.trans (hb6.mono (by omega)))
      have hr9 := (HX1.out.fr hfr'.out (fun h => by rcases h with h | h <;> omega)).fr (Fr.of_grow HB6.out) (fun h => h)
      have hrcc := hr9.cell
      have hrcf := hr9.free
      have hrcl := hr9.lt
      clear hr9 hr1 hb6
      go_wp2
      exact bodyPost_ret (v := .tuple #[.agg #[.slice none 0 0, .string ⟨#[]⟩, .string ⟨#[]⟩, .bool false], .int .i64 er]) (by simp [results, Tryd.results5, go_sem, hrcc, hrcl]) rfl (RyPost.bad HF.out (by rw [HG0.out]; exact ((((HB0.out.trans ((HBG.out.trans (HB6.out.mono (by omega))).mono (by omega))).setCell (p := ⟨gr, 0, none⟩) (by show g0 ≤ gr; omega) _).setCell (p := ⟨gr, 1, none⟩) (by show g0 ≤ gr; omega) _).setCell (p := ⟨gr, 2, none⟩) (by show g0 ≤ gr; omega) _).setCell (p := ⟨gr, 3, none⟩) (by show g0 ≤ gr; omega) _))
    · subst he
      have HF := Lib.hid (hf.out.trans (readyW_step hp))
      clear hp hf
      go_wp2_with fail
      refine HC.out.mono ?_
      rintro e w6 ⟨A1, n1, c1, rfl, hr1, hn1', hb6⟩
      have HB6 := Lib.hid (HB5.out.trans (hb6.mono (by omega)))
      obtain ⟨A, n, c, hst⟩ := hfa.out
      have h6 := hst.below HB6.out
      have HST := Lib.hid h6
      have HR1 := Lib.hid hr1
      have hc6 := h6.blk.cell
      have hl6 := h6.blk.lt
      have hf6 := h6.blk.free
      have hn6 : s.args.length = n := h6.len
      have hx1 : x.length = n1 := hr1.2
      have hbs := h6.base
      clear hr1 hb6 hst h6 hfa
      go_wp2_with (at_builtin; refine wpList_append_row _ rfl (.tmp 36) (.tmp 37) 27 rfl (g + 1) 9 i9 (.string ⟨#[]⟩) 1 16 Tryd.underlying27 hi9 hy0 hy1 hy2 rfl (by decide) (.slice A n c) n (s.args.map Value.string) rfl HST.out.row w6.heap.size A1 n1 c1 (x.flatMap strC) rfl HR1.out.1 (strs_one x) (by unfold maxLen; omega) (by omega) hbs ?_)
      intro A9 c9 w9 hr9 hg9 ho9
      obtain ⟨hblk, hst9, hfr9⟩ := HST.out.app hx1 hg9 hr9
      have k9 := hblk.cell
      have l9 := hblk.lt
      have f9 := hblk.free
      have HS9 := Lib.hid hst9
      have HF9 := Lib.hid (hfr'.out.trans ((FrG.of_below HB6.out (by omega)).trans hfr9))
      have hlen : (s.more_ x).args.length ≤ (j + 1) * 40 := by show (s.args ++ x).length ≤ _; rw [List.length_append]; omega
      clear hr9 hg9 ho9 hblk hst9 hfr9 hc6 hl6 hf6
      go_wp2
      go_roundw
      case rel => exact ⟨j + 1, s.more_ x, by omega, by go_num, HF, hlen, Lib.hid ⟨_, _, _, HS9.out⟩, HF9⟩
      case measure => simp [intOf]; omega
end Go.Proofs.YtopkcanfiefmaaaDoor
