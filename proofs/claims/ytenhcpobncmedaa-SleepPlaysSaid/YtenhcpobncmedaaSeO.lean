/- Locks that are slept for: contracts of the reference's Go and Free. -/
import Derived.Test.YtenhcpobncmedaaSeN
namespace Go.Proofs.Ytenhcpobncmedaa
open Go.RowKit Go.Maps
set_option maxHeartbeats 400000
set_option linter.unusedVariables false
set_option linter.unusedSimpArgs false
/-- The first k rows are without t. -/
def mixF (F : Nat → List Int) (t : Int) (k i : Nat) : List Int := if i < k then (F i).filter (· != t) else F i
theorem mixF_put (F : Nat → List Int) (t : Int) (k : Nat) : ∀ i, updV (mixF F t k) k ((F k).filter (· != t)) i = mixF F t (k + 1) i := fun i => by
  unfold mixF
  by_cases h : i = k
  · subst h; rw [updV_same, if_pos (by omega)]
  · rw [updV_other _ h]
    by_cases hi : i < k
    · rw [if_pos hi, if_pos (by omega)]
    · rw [if_neg hi, if_neg (by omega)]
theorem filter_take {xs : List Int} {t : Int} {j : Nat} (hj : j < xs.length) : (xs.take (j + 1)).filter (· != t) = (xs.take j).filter (· != t) ++ if xs.getD j 0 != t then [xs.getD j 0] else [] := by
  rw [List.take_succ_eq_append_getElem hj, List.filter_append]
  congr 1
  have : xs.getD j 0 = xs[j] := by simp [List.getD, List.getElem?_eq_getElem hj]
  rw [this]
  by_cases h : xs[j] = t
  · simp [h]
  · simp [h]
/-- Under way: the first k rows are new, the others as they were. -/
def GoAt (w : World) (B q bp np : Nat) (vs : Nat → Value) (s : LkS) (t : Int) (k : Nat) (wr : World) : Prop :=
  ∃ vs', LkM wr B q bp np 91 [] vs' ⟨s.P, s.O, mixF s.F t k⟩ ∧ (∀ i, k ≤ i → vs' i = vs i) ∧ Fr (LkMF q bp vs) w wr ∧ ∀ j, LkMF q bp vs' j → LkMF q bp vs j ∨ w.heap.size ≤ j
section
variable {w : World} {B q bp np : Nat} {vs : Nat → Value} {s : LkS}
theorem GoAt.start (h : LkM w B q bp np 91 [] vs s) (t : Int) : GoAt w B q bp np vs s t 0 w :=
  ⟨vs, h.congr rfl rfl (fun i _ => by simp [mixF]), fun _ _ => rfl, Fr.refl _ _, fun j hj => .inl hj⟩
theorem GoAt.done {t : Int} {wr : World} (h : GoAt w B q bp np vs s t 16 wr) : LkMGo w B q bp 91 [] vs np (goS s t) wr := by
  obtain ⟨vs', a1, _, a3, a4⟩ := h
  exact ⟨vs', a1.congr rfl rfl (fun i hi => by simp [mixF, goS, hi]), a3, a4⟩
theorem GoAt.put {t : Int} {k : Nat} {W w1 : World} {v : Value} (h : GoAt w B q bp np vs s t k W) (hk : k < 16) (hb : Below W.heap.size W w1) (hB : B ≤ W.heap.size) (hr : Row w1 W.heap.size 3 1 v ((s.F k).filter (· != t)).length (((s.F k).filter (· != t)).map (Value.int .i64))) :
    GoAt w B q bp np vs s t (k + 1) (w1.setCell ⟨q, 17 + k, none⟩ v) := by
  obtain ⟨vs', a1, a2, a3, a4⟩ := h
  have hf : Fr (fun j => (vs' k).ownBlock = some j) W w1 := (Fr.of_grow hb).mono (fun _ _ h => h.elim)
  have ho : ∀ j, v.ownBlock = some j → (vs' k).ownBlock = some j ∨ W.heap.size ≤ j := fun j hj => .inr (hr.lt j hj).1
  have hm := a1.put hk hf (hr.base_le hB) ho
  refine ⟨_, hm.congr rfl rfl (fun i _ => mixF_put s.F t k i), fun i hi => ?_, ?_, fun j hj => ?_⟩
  · rw [updV_other _ (by omega)]; exact a2 i (by omega)
  · exact a3.trans (a1.put_fr hk (v := v) hf) (fun j hj hj' => (a4 j hj').resolve_right (by omega))
  · rcases a1.put_own hk ho j hj with h1 | h1
    · exact a4 j h1
    · exact .inr (Nat.le_trans a3.size h1)
def GoPost (w : World) (B q bp np : Nat) (vs : Nat → Value) (s' : LkS) (e : Ending) (w' : World) : Prop := e = .returned (.tuple #[]) ∧ LkMGo w B q bp 91 [] vs np s' w'
set_option maxHeartbeats 1000000 in
set_option maxRecDepth 100000 in
theorem go59 (h : LkM w B q bp np 91 [] vs s) (hB : B ≤ w.heap.size) (t : Int) (hln : ∀ k, k < 16 → (s.F k).length ≤ 16) :
    Calls Try.prog 59 #[.pointer (some ⟨q, 0, none⟩), .int .i64 t] w (GoPost w B q bp np vs (goS s t)) := by
  obtain ⟨i0, ii, hz0, hz1, hz2⟩ := info_parts Try.infoI
  have HL := Lib.hid (rowsA_cell h.rd)
  have HG := Lib.hid (fun W' i (hi : i < 16) A n c (hv : vs i = .slice A n c) => run_index89 W' (rowsA w q) i A n c hi (rowsA_at hi (by have := h.arr.cell hi; rw [hdO_len, hv] at this; exact this)))
  have HI := Lib.hid (info89 w q)
  have HS := Lib.hid (GoAt.start h t)
  have HLN := Lib.hid hln
  generalize rowsA w q = cs at *
  clear h hln
  go_enter Try.func59, Try.ntmps59
  go_wp2_with (refine wpList_load_arr rfl 89 (.tmp 11) rfl q 17 rfl cs _ HL.out Try.underlying89 rfl HI.out ?_)
  go_loopw [13] (fun i wr => ∃ k : Nat, k ≤ 16 ∧ i = .int .i64 k ∧ Hid (GoAt w B q bp np vs s t k wr)) (fun i _ => 16 - (intOf i).toNat)
  case atStart => exact ⟨0, by omega, rfl, HS⟩
  case round =>
    obtain ⟨k, hk, rfl, hA⟩ := hrel
    clear HS
    by_cases hk16 : k < 16
    · have hki : (k : Int) < 16 := by omega
      have hk0 : (0 : Int) ≤ k := by omega
      have HPUT := Lib.hid (fun v w1 => GoAt.put (v := v) (w1 := w1) hA.out hk16)
      obtain ⟨vs', a1, a2, a3, a4⟩ := hA.out
      have hv1 := a2 k (Nat.le_refl _)
      obtain ⟨A, c, hvv, hc1, hc2⟩ := (a1.arr.row k hk16).shape
      have hrow := a1.arr.row k hk16
      have hmx : mixF s.F t k k = s.F k := by simp [mixF]
      dsimp only at hvv hrow hc1
      rw [hmx] at hvv hrow hc1
      rw [hvv] at hv1 hrow
      have hix := HG.out wr k hk16 A _ c hv1.symm
      have HRD := Lib.hid (RD.of_row hrow)
      have hcw := a1.rd.hr k hk16
      have hgl := a1.arr.blk.lt
      have hfz := a1.arr.blk.free
      have hBW : B ≤ wr.heap.size := Nat.le_trans hB a3.size
      have hl16 := HLN.out k hk16
      have HGL := Lib.hid hgl
      have HFZ := Lib.hid hfz
      have HCW := Lib.hid hcw
      clear hA a1 a2 a3 a4 hv1 hvv hrow hmx hgl hfz hcw
      generalize s.F k = xs at *
      generalize hm : xs.length = m at *
      have HM := Lib.hid hm
      clear hm
      go_wp2
      clear hix
      obtain ⟨W, hW⟩ : ∃ W, W = wr := ⟨_, rfl⟩
      subst hW
      go_loopw [6, 19] (fun v i wr => ∃ j : Nat, j ≤ m ∧ i = .int .i64 j ∧ Hid (Row wr W.heap.size 3 1 v ((xs.take j).filter (· != t)).length (((xs.take j).filter (· != t)).map (Value.int .i64))) ∧ Below W.heap.size W wr) (fun _ i _ => m - (intOf i).toNat)
      case atStart => exact ⟨0, by omega, rfl, Lib.hid (by simpa using Row.nil _ _ _ _), Below.refl _ _⟩
      case round =>
        obtain ⟨j, hj, rfl, hr, hb⟩ := hrel
        have HB := Lib.hid hb
        by_cases hjm : j < m
        · obtain ⟨b, o, rfl, hbb, hcj⟩ := (HRD.out.below' hb (Nat.le_refl _)).at_ hjm
          have hjn : (j : Int) < m := by omega
          have HT := Lib.hid (filter_take (xs := xs) (t := t) (j := j) (by rw [HM.out]; exact hjm))
          have hll : ((xs.take j).filter (· != t)).length ≤ 16 := by
            have := List.length_filter_le (· != t) (xs.take j)
            rw [List.length_take] at this
            omega
          generalize xs.getD j 0 = x at *
          generalize (xs.take j).filter (· != t) = ys at *
          obtain ⟨A3, c3, rfl, -, -⟩ := hr.out.shape
          by_cases hxt : x = t
          · have d1 : (x != t) = false := by simpa using hxt
            rw [d1] at HT
            clear hxt hb
            go_wp2
            go_roundw
            case rel => exact ⟨j + 1, by omega, by go_num, Lib.hid (by rw [HT.out]; simpa using hr.out), HB.out⟩
            case measure => simp [intOf]; omega
          · have d1 : (x != t) = true := by simpa using hxt
            rw [d1] at HT
            clear hxt hb
            generalize hyl : ys.length = yl at *
            have HYL := Lib.hid hyl
            clear hyl
            go_wp2_with (at_builtin; refine wpList_append_row _ rfl (.tmp 26) (.tmp 28) 45 rfl W.heap.size 3 i0 (.int .i64 0) 1 8 Try.underlying45 ii hz0 hz1 hz2 rfl (by decide) (.slice A3 yl c3) yl (ys.map (Value.int .i64)) rfl (hr.out.alloc _) (wr.heap.size + 1) (some ⟨wr.heap.size, 0, none⟩) 1 1 [.int .i64 x] rfl ?c1 (by simp [Value.oneCell']) (by unfold maxLen; omega) (by omega) ?c2 ?_; rotate_left; skip)
            case c1 => exact reads_one wr (.int .i64 x) 3
            case c2 => have := HB.out.size; simp; omega
            intro A9 c9 w9 hr9 hg9 ho9
            have HR9 : Hid (Row w9 W.heap.size 3 1 (.slice A9 (yl + 1) c9) ((xs.take (j + 1)).filter (· != t)).length (((xs.take (j + 1)).filter (· != t)).map (Value.int .i64))) := Lib.hid (by
              rw [HT.out]
              have : (ys ++ [x]).length = yl + 1 := by simp [HYL.out]
              rw [if_pos trivial, this]
              simpa using hr9)
            have HB9 : Hid (Below W.heap.size W w9) := Lib.hid ((HB.out.alloc HB.out.size _).grown hg9 (by have := HB.out.size; simp; omega) (fun j hj => (hr.out.lt j hj).1))
            clear hr9 hg9 ho9
            go_wp2
            go_roundw
            case rel => exact ⟨j + 1, by omega, by go_num, HR9, HB9.out⟩
            case measure => simp [intOf]; omega
        · obtain rfl : j = m := by omega
          have hg2 : q < wr.heap.size := Nat.lt_of_lt_of_le HGL.out hb.size
          have hfz2 : ∀ o, wr.frozen? ⟨q, o, none⟩ = false := fun o => (hb.frozen (p := ⟨q, o, none⟩) HGL.out).trans (HFZ.out o)
          obtain ⟨A5, n5, c5, hc5, -, -⟩ := HCW.out
          have hc6 := (hb.cell (p := ⟨q, 17 + k, none⟩) HGL.out).trans hc5
          have e : xs.take j = xs := by rw [← HM.out, List.take_length]
          rw [e] at hr
          have HP := Lib.hid (HPUT.out _ wr hb hBW hr.out)
          obtain ⟨A3, c3, rfl, -, -⟩ := hr.out.shape
          clear hb e hr hc5
          go_wp2
          go_roundw
          case rel => exact ⟨k + 1, by omega, by go_num, HP⟩
          case measure => simp [intOf]; omega
    · obtain rfl : k = 16 := by omega
      have HD := Lib.hid hA.out.done
      go_wp2
      exact bodyPost_ret (v := .tuple #[]) (by simp [results, Try.results59, go_sem]) rfl ⟨rfl, HD.out⟩
def RFreePost (w : World) (B q bp np : Nat) (vs : Nat → Value) (v : Int) (s' : LkS) (e : Ending) (w' : World) : Prop := e = .returned (.int .i64 v) ∧ LkMGo w B q bp 91 [] vs np s' w'
set_option maxHeartbeats 1000000 in
set_option maxRecDepth 100000 in
theorem free58 (hs : LkOk s) (h : LkM w B q bp np 91 [] vs s) (hB : B ≤ w.heap.size) (hnp : np ≤ 10000000000000) (k : Nat) (hk : k < 16) :
    Calls Try.prog 58 #[.pointer (some ⟨q, 0, none⟩), .int .i64 k] w (RFreePost w B q bp np vs (nextI (eff s) (s.F k) (s.F k).length) (passS s k (nextI (eff s) (s.F k) (s.F k).length))) := by
  obtain ⟨A, c, hvv, hc1, hc2⟩ := (h.arr.row k hk).shape
  have hrow := h.arr.row k hk
  have hcv := h.arr.cell hk
  rw [hdO_len] at hcv
  rw [hvv] at hcv hrow
  have HRD := Lib.hid (RD.of_row hrow)
  have hln := hs.len hk
  have hk16 : (k : Int) < 16 := by omega
  have hk0 : (0 : Int) ≤ k := by omega
  have HEF := Lib.hid (fun wr (hb : Below w.heap.size w wr) x (hx : x ∈ s.F k) => eff120 hs (h.rd.grow hb) hnp x (hs.mem k hk x hx).1)
  have HPK := Lib.hid (fun j => pick_round (E := eff s) (xs := s.F k) (j := j) (fun x => (eff_rng hs x).1))
  have HGM := Lib.hid (fun j (hj : j < (s.F k).length) => getD_mem hj)
  have HG := Lib.hid (fun wr (hb : Below w.heap.size w wr) => h.grow hb)
  have HLN := Lib.hid (fun k (hk : k < 16) => hs.len hk)
  clear hvv hrow h hs
  generalize s.F k = xs at *
  generalize hm : xs.length = m at *
  have HM := Lib.hid hm
  clear hm
  go_enter Try.func58, Try.ntmps58
  go_wp2
  clear hcv
  go_loopw [5, 6, 17] (fun nv mv i wr => ∃ j : Nat, j ≤ m ∧ i = .int .i64 j ∧ nv = .int .i64 (nextI (eff s) xs j) ∧ mv = .int .i64 (mostI (eff s) xs j) ∧ Below w.heap.size w wr) (fun _ _ i _ => m - (intOf i).toNat)
  case atStart => exact ⟨0, by omega, rfl, rfl, rfl, Below.refl _ _⟩
  case round =>
    obtain ⟨j, hj, rfl, rfl, rfl, hbw⟩ := hrel
    have HBW := Lib.hid hbw
    by_cases hjm : j < m
    · obtain ⟨b, of, rfl, hb, hcj⟩ := (HRD.out.below' hbw (Nat.le_refl _)).at_ hjm
      have hjn : (j : Int) < m := by omega
      have HC := Lib.hid (HEF.out wr hbw _ (HGM.out j hjm))
      have HP := HPK.out j
      have HP1 := Lib.hid HP.1
      have HP2 := Lib.hid HP.2
      clear HP hbw
      generalize xs.getD j 0 = x at *
      generalize eff s x = ex at *
      generalize nextI (eff s) xs j = bb at *
      generalize mostI (eff s) xs j = mm at *
      by_cases hgt : mm < ex
      · have HQ := Lib.hid (HP1.out hgt)
        go_wp2_with fail
        refine HC.out.mono ?_
        rintro e w3 ⟨rfl, hb3⟩
        have HB3 := Lib.hid hb3
        clear hb3
        go_wp2
        go_roundw
        case rel => exact ⟨j + 1, by omega, by go_num, by rw [HQ.out.2.2], by rw [HQ.out.2.1], HBW.out.trans (HB3.out.mono HBW.out.size)⟩
        case measure => simp [intOf]; omega
      · have HQ := Lib.hid (HP2.out (by omega))
        go_wp2_with fail
        refine HC.out.mono ?_
        rintro e w3 ⟨rfl, hb3⟩
        have HB3 := Lib.hid hb3
        clear hb3
        go_wp2
        go_roundw
        case rel => exact ⟨j + 1, by omega, by go_num, by rw [HQ.out.2.2], by rw [HQ.out.2.1], HBW.out.trans (HB3.out.mono HBW.out.size)⟩
        case measure => simp [intOf]; omega
    · obtain rfl : j = m := by omega
      have hwr := HG.out wr hbw
      have hfz := hwr.arr.blk.free
      have hgl := hwr.arr.blk.lt
      have hok := hwr.rd.ho k hk
      have hBw : B ≤ wr.heap.size := Nat.le_trans hB hbw.size
      generalize nextI (eff s) xs j = nx at *
      have h2 := hwr.setO hk nx
      have HGO := Lib.hid (go59 h2 (by simpa using hBw) nx HLN.out)
      have HFR : Hid (∀ w2, LkMGo (wr.setCell ⟨q, 1 + k, none⟩ (.int .i64 nx)) B q bp 91 [] vs np (passS s k nx) w2 → LkMGo w B q bp 91 [] vs np (passS s k nx) w2) := Lib.hid (fun w2 h => by
        obtain ⟨vs2, b1, b2, b3⟩ := h
        refine LkMGo.of_grow hbw ⟨vs2, b1, ((Fr.refl (LkMF q bp vs) wr).setCell (p := ⟨q, 1 + k, none⟩) (fun _ => .inl (.inl rfl)) (.int .i64 nx)).trans b2 (fun _ _ h => h), fun j hj => ?_⟩
        rcases b3 j hj with h1 | h1
        · exact .inl h1
        · exact .inr (by simpa using h1))
      clear h2 hwr hbw
      go_wp2_with fail
      refine HGO.out.mono ?_
      rintro e w3 ⟨rfl, hgo⟩
      have HD := Lib.hid (HFR.out w3 hgo)
      clear hgo
      go_wp2
      go_ret
      exact ⟨rfl, HD.out⟩
end
end Go.Proofs.Ytenhcpobncmedaa
