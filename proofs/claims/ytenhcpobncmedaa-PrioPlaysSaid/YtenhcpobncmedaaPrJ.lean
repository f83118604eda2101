/- The law ringlaw1.PrioPlays. -/
import Derived.Test.YtenhcpobncmedaaPrI
import Derived.Deep.CutBlock
import Derived.Deep.DeepCutAuto
namespace Go.Proofs.Ytenhcpobncmedaa
open Go.RowKit
set_option maxHeartbeats 400000
set_option linter.unusedVariables false
set_option linter.unusedSimpArgs false
theorem task23 (t : Int) (w : World) : Calls Try.prog 23 #[.int .i64 t] w fun e w' => e = .returned (.bool (decide (1 ≤ t ∧ t ≤ 16))) ∧ w = w' := by
  by_cases h1 : 1 ≤ t
  · have d1 : decide (1 ≤ t) = true := by simpa using h1
    by_cases h2 : t ≤ 16
    · have H := Lib.hid (decide_eq_true (show 1 ≤ t ∧ t ≤ 16 from ⟨h1, h2⟩))
      have d2 : decide (t ≤ 16) = true := by simpa using h2
      rw [H.out]
      clear h1 h2
      go_enter Try.func23, Try.ntmps23
      go_wp2
      go_ret
      exact ⟨rfl, rfl⟩
    · have H := Lib.hid (decide_eq_false (show ¬ (1 ≤ t ∧ t ≤ 16) from fun h => h2 h.2))
      have d2 : decide (t ≤ 16) = false := by simpa using h2
      rw [H.out]
      clear h1 h2
      go_enter Try.func23, Try.ntmps23
      go_wp2
      go_ret
      exact ⟨rfl, rfl⟩
  · have H := Lib.hid (decide_eq_false (show ¬ (1 ≤ t ∧ t ≤ 16) from fun h => h1 h.1))
    have d1 : decide (1 ≤ t) = false := by simpa using h1
    rw [H.out]
    clear h1
    go_enter Try.func23, Try.ntmps23
    go_wp2
    go_ret
    exact ⟨rfl, rfl⟩
theorem task_is {b : Bool} (t : Int) (w : World) (h : decide (1 ≤ t ∧ t ≤ 16) = b) : Calls Try.prog 23 #[.int .i64 t] w fun e w' => e = .returned (.bool b) ∧ w = w' := h ▸ task23 t w
theorem pr_pow (j : Nat) (h : j ≤ 8) : 1 ≤ (2 : Int) ^ j ∧ (2 : Int) ^ j ≤ 256 := by
  have : j = 0 ∨ j = 1 ∨ j = 2 ∨ j = 3 ∨ j = 4 ∨ j = 5 ∨ j = 6 ∨ j = 7 ∨ j = 8 := by omega
  rcases this with rfl | rfl | rfl | rfl | rfl | rfl | rfl | rfl | rfl <;> decide
def PrRel (w : World) (g q : Nat) (wr : World) : Prop := ∃ vs us F, Bo w wr g q vs us F F ∧ PInv F
set_option maxHeartbeats 8000000 in
set_option maxRecDepth 100000 in
theorem law_prioPlays (A : Option Addr) (n c : Nat) (ps : List Pl) (w : World) (h : RPl w w.heap.size A n ps) (hn : n ≤ 9223372036854775807) :
    Calls Try.prog 4 #[.slice A n c] w fun e w' => e = .returned (.bool true) ∧ Below w.heap.size w w' := by
  obtain ⟨i0, hi, hz0, hz1, hz2⟩ := info_parts infoInt9
  go_enter Try.func4, Try.ntmps4
  go_wp2_with fail
  refine (new18 _).mono ?_
  rintro e w1 ⟨rfl, hw1⟩
  have hP1 := pst_new w w.heap.size (Nat.le_refl _)
  rw [← hw1] at hP1
  have hb1 : Below w.heap.size w w1 := by rw [hw1]; exact (Below.refl _ _).alloc (Nat.le_refl _) _
  clear hw1
  go_wp2_with fail
  refine (put_bad w.heap.size 1 8 w1 (by omega)).mono ?_
  rintro e w2 ⟨rfl, rfl⟩
  go_wp2_with fail
  refine (put_any w.heap.size 3 1 _ _ w1 w.heap.size hP1 hb1.size (by omega) (by omega) rfl (by simp)).mono ?_
  rintro e w2 ⟨rfl, vs2, hP2, hf2, _⟩
  have hP2 : PSt w2 w.heap.size w.heap.size vs2 (updV (fun _ => []) 3 ([] ++ [1])) := hP2
  have hb2 : Below w.heap.size w w2 := hb1.trans (hf2.below hb1.size (fun k hk => (Arr.lt hP1 k hk).1))
  have HB := Lib.hid (bits20 w.heap.size _ _ w2 _ hP2)
  rw [mask_three] at HB
  clear hP1 hb1 hP2 hf2
  go_wp2_with fail
  refine HB.out.mono ?_
  rintro e w3 ⟨rfl, rfl⟩
  go_wp2_with fail
  refine (new18 _).mono ?_
  rintro e w3 ⟨rfl, hw3⟩
  subst hw3
  have hbo := bo_start hb2
  have HBO : Hid (PrRel w w2.heap.size (w2.heap.size + 1) _) := Lib.hid ⟨_, _, _, hbo, PInv.none⟩
  clear hbo HB hb2
  go_wp2
  go_loopw [47] (fun i wr => ∃ k : Nat, k ≤ n ∧ i = .int .i64 k ∧ PrRel w w2.heap.size (w2.heap.size + 1) wr) (fun i _ => n - (intOf i).toNat)
  case atStart => exact ⟨0, by omega, rfl, HBO.out⟩
  case round =>
    clear HBO
    obtain ⟨k, hk, rfl, vs, us, F, hbo, hinv⟩ := hrel
    have hql := hbo.qq.blk.lt
    generalize w2.heap.size + 1 = q at *
    generalize w2.heap.size = g at *
    by_cases hlt : k < n
    rotate_left
    · obtain rfl : k = n := by omega
      have hlow := hbo.low
      clear hbo
      go_wp2
      go_ret
      exact ⟨rfl, hlow⟩
    obtain ⟨b, o, rfl, hbB, hcell, hfine⟩ := (h.below' hbo.low (Nat.le_refl _)).at_ hlt
    generalize ps.getD k .zero = p at *
    obtain ⟨Ap, np, cp, xs⟩ := p
    obtain ⟨hri, hnp⟩ := hfine
    dsimp only at hcell hri hnp
    have hkn : (k : Int) < n := by omega
    have hx1 := i64_range (RI.rng hri 1 (by decide))
    have hx2 := i64_range (RI.rng hri 2 (by decide))
    have hRD : RD wr w.heap.size Ap np xs := RD.of_ri hri
    clear hri
    go_wp2_with fail
    refine (at_any Ap np cp xs 1 _ _ hRD hnp (by omega)).mono ?_
    rintro e w4 ⟨rfl, rfl⟩
    generalize xs.getD 1 0 = t at *
    go_wp2_with fail
    refine (at_any Ap np cp xs 2 _ _ hRD hnp (by omega)).mono ?_
    rintro e w4 ⟨rfl, rfl⟩
    have HOF := Lib.hid (of22 q t F wr hbo.qq.rd)
    generalize xs.getD 2 0 = v at *
    go_wp2_with fail
    refine HOF.out.mono ?_
    rintro e w5 ⟨rfl, hb5⟩
    have hbo5 := hbo.grow hb5
    have hRD5 : RD w5 w.heap.size Ap np xs := hRD.below' hb5 hbo.low.size
    have hql5 := hbo5.qq.blk.lt
    clear hbo hb5 hRD HOF hql hcell
    go_wp2_with fail
    refine (at_any Ap np cp xs 0 _ _ hRD5 hnp (by omega)).mono ?_
    rintro e w4 ⟨rfl, rfl⟩
    generalize xs.getD 0 0 = y at *
    clear hRD5
    go_upto_block 2 with fail
    go_cut [10, 11] (fun s10 s11 wx => PrRel w g q wx)
    case first =>
      have hq0 := hbo5.qq.blk.free
      by_cases hy1 : y = 1
      · as_aux_lemma =>
          have e1 : (y == 1) = true := by simpa using hy1
          clear hy1
          by_cases hok : 1 ≤ t ∧ t ≤ 16 ∧ 0 ≤ v ∧ v < 8
          rotate_left
          · have HP := Lib.hid (put_bad g t v w5 hok)
            by_cases ht : 1 ≤ t ∧ t ≤ 16
            · have hT := Lib.hid (task_is t w5 (decide_eq_true ht))
              by_cases hv0 : v < 0
              · have dv : decide (v < 0) = true := by simpa using hv0
                clear hok ht hv0
                go_wp2_with fail
                refine hT.out.mono ?_
                rintro e w9 ⟨rfl, rfl⟩
                go_wp2_with fail
                refine HP.out.mono ?_
                rintro e w9 ⟨rfl, rfl⟩
                go_wp2
                go_meet
                exact ⟨vs, us, F, hbo5, hinv⟩
              · have dv : decide (v < 0) = false := by simpa using hv0
                have dv2 : decide (7 < v) = true := by simp; omega
                clear hok ht hv0
                go_wp2_with fail
                refine hT.out.mono ?_
                rintro e w9 ⟨rfl, rfl⟩
                go_wp2_with fail
                refine HP.out.mono ?_
                rintro e w9 ⟨rfl, rfl⟩
                go_wp2
                go_meet
                exact ⟨vs, us, F, hbo5, hinv⟩
            · have hT := Lib.hid (task_is t w5 (decide_eq_false ht))
              clear hok ht
              go_wp2_with fail
              refine hT.out.mono ?_
              rintro e w9 ⟨rfl, rfl⟩
              go_wp2_with fail
              refine HP.out.mono ?_
              rintro e w9 ⟨rfl, rfl⟩
              go_wp2
              go_meet
              exact ⟨vs, us, F, hbo5, hinv⟩
          · have ht : 1 ≤ t ∧ t ≤ 16 := ⟨hok.1, hok.2.1⟩
            have hT := Lib.hid (task_is t w5 (decide_eq_true ht))
            have dv : decide (v < 0) = false := by simp; omega
            have dv2 : decide (7 < v) = false := by simp; omega
            rcases ofI_cases F t with ⟨hm, _⟩ | ⟨kk, hk8, hm, hct, _⟩
            · rw [hm]
              obtain ⟨vn, rfl⟩ := Int.eq_ofNat_of_zero_le hok.2.2.1
              have hvn : vn < 8 := by omega
              have hvi : (vn : Int) < 8 := by omega
              have hvj : (0 : Int) ≤ vn := by omega
              have hcv := hbo5.qq.cell hvn
              obtain ⟨A6, c6, hvv, hc61, hc62⟩ := (hbo5.qq.row vn hvn).shape
              have hrow := hbo5.qq.row vn hvn
              rw [hvv] at hcv hrow
              have hlen := hinv.len vn hvn
              have hB5 := hbo5.low.size
              have HQ := Lib.hid (fun w8 A8 c8 N9 hr hf hN ho => qr_app (w1 := w8) (A1 := A8) (c1 := c8) (t := t) hbo5.qq hvn hr hf (N9 := N9) hN ho hvv rfl)
              have HAP := Lib.hid (fun w8 (hf : Fr (fun k => (us vn).ownBlock = some k) w5 w8) => Arr.app hbo5.qq hvn hf)
              have HV := Lib.hid hvv
              have HPT := Lib.hid (fun vs W (hp : PSt W w.heap.size g vs F) (hB : w.heap.size ≤ W.heap.size) => put_any g vn t vs F W w.heap.size hp hB ht hvn hm hlen)
              have HBO := Lib.hid hbo5
              have HIN := Lib.hid (hinv.put hvn ht hm)
              clear hvv hm hok ht
              generalize (F vn).map (Value.int .i64) = oc at *
              generalize (F vn).length = ol at *
              go_wp2_with fail
              refine hT.out.mono ?_
              rintro e w9 ⟨rfl, rfl⟩
              go_wp2_with (at_builtin; refine wpList_append_row _ rfl (.tmp 64) (.tmp 66) 45 rfl w.heap.size 3 i0 (.int .i64 0) 1 8 Try.underlying45 hi hz0 hz1 hz2 rfl (by decide) (.slice A6 ol c6) ol oc rfl (hrow.alloc _) (w5.heap.size + 1) (some ⟨w5.heap.size, 0, none⟩) 1 1 [.int .i64 t] rfl (reads_one w5 (.int .i64 t) 3) (by simp [Value.oneCell']) (by unfold maxLen; omega) (by omega) (by simp; omega) ?_)
              intro A8 c8 w8 hr8 hg8 ho8
              have hf8 : Fr (fun k => (Value.slice A6 ol c6).ownBlock = some k) w5 w8 := ((Fr.refl _ w5).alloc _).grown hg8 (fun k e _ => e)
              obtain ⟨ka, kb, kc, kd⟩ := HAP.out w8 (by rw [HV.out]; exact hf8)
              have ka1 : w8.cell? ⟨q, vn, none⟩ = some (us vn) := by rwa [List.length_nil, Nat.zero_add] at ka
              rw [HV.out] at ka1
              have kb1 := kb vn
              obtain ⟨us', hbo8⟩ := HBO.out.qgo (HQ.out w8 A8 c8 _ hr8 hf8 (by simp) ho8)
              have HPT2 := Lib.hid (HPT.out vs _ hbo8.pp hbo8.low.size)
              have HBO8 := Lib.hid hbo8
              clear ka kd hr8 hg8 ho8 hf8 hbo8 hrow hq0 hbo5
              go_wp2_with fail
              refine HPT2.out.mono ?_
              rintro e w10 ⟨rfl, hgo10⟩
              obtain ⟨vs', hbo10⟩ := HBO8.out.pgo hgo10
              have HB10 := Lib.hid hbo10
              clear hbo10 hgo10
              go_wp2
              go_meet
              exact ⟨vs', us', _, HB10.out, HIN.out⟩
            · have HP := Lib.hid (put_there g t v F w5 hbo5.pp.rd hok (by rw [hm]; omega))
              rw [hm]
              have dk : decide ((0 : Int) ≤ kk) = true := by simp
              clear hok ht hct hm
              go_wp2_with fail
              refine hT.out.mono ?_
              rintro e w9 ⟨rfl, rfl⟩
              go_wp2_with fail
              refine HP.out.mono ?_
              rintro e w9 ⟨rfl, hb9⟩
              have hbo9 := hbo5.grow hb9
              have HB9 := Lib.hid hbo9
              clear hbo9 hb9
              go_wp2
              go_meet
              exact ⟨vs, us, F, HB9.out, hinv⟩
      have e1 : (y == 1) = false := by simpa using hy1
      by_cases hy2 : y = 2
      · as_aux_lemma =>
          have e2 : (y == 2) = true := by simpa using hy2
          clear hy1 hy2
          rcases ofI_cases F t with ⟨hm, _⟩ | ⟨kk, hk8, hm, hct, _⟩
          · have HP := Lib.hid (out_none g t F w5 hbo5.pp.rd hm)
            rw [hm]
            clear hm
            go_wp2_with fail
            refine HP.out.mono ?_
            rintro e w9 ⟨rfl, hb9⟩
            have hbo9 := hbo5.grow hb9
            have HB9 := Lib.hid hbo9
            clear hbo9 hb9
            go_wp2
            go_meet
            exact ⟨vs, us, F, HB9.out, hinv⟩
          · have HP := Lib.hid (out_any g kk t vs F w5 w.heap.size hbo5.pp hk8 hm)
            rw [hm]
            have dk : decide ((kk : Int) < 0) = false := by simp
            have dk2 : ((kk : Int) != kk) = false := by simp
            have HCG := Lib.hid (hinv.go hk8 (by simpa using hct : t ∈ F kk))
            have HIN := Lib.hid (hinv.out t hk8)
            have HLN := Lib.hid hinv.len
            clear hm hct
            go_wp2_with fail
            refine HP.out.mono ?_
            rintro e w9 ⟨rfl, hgo9⟩
            obtain ⟨vs', hbo9⟩ := hbo5.pgo hgo9
            have HG := Lib.hid (go25 q t us F w9 w.heap.size hbo9.qq hbo9.low.size HLN.out)
            have HB9 := Lib.hid hbo9
            clear hbo9 hgo9 hbo5 hq0
            go_wp2_with fail
            refine HG.out.mono ?_
            rintro e w10 ⟨rfl, hgo10⟩
            obtain ⟨us', hbo10⟩ := HB9.out.qgo hgo10
            have HB10 := Lib.hid (hbo10.qcongr HCG.out)
            clear hbo10 hgo10
            go_wp2
            go_meet
            exact ⟨vs', us', _, HB10.out, HIN.out⟩
      have e2 : (y == 2) = false := by simpa using hy2
      by_cases hy3 : y = 3
      · as_aux_lemma =>
          have e3 : (y == 3) = true := by simpa using hy3
          clear hy1 hy2 hy3
          by_cases hv0 : v < 0
          · have HP := Lib.hid (turn_bad g v w5 (by omega))
            have dv : decide (v < 0) = true := by simpa using hv0
            clear hv0
            go_wp2_with fail
            refine HP.out.mono ?_
            rintro e w9 ⟨rfl, rfl⟩
            go_wp2
            go_meet
            exact ⟨vs, us, F, hbo5, hinv⟩
          have dv : decide (v < 0) = false := by simpa using hv0
          by_cases hv7 : 7 < v
          · have HP := Lib.hid (turn_bad g v w5 (by omega))
            have dv2 : decide (7 < v) = true := by simpa using hv7
            clear hv0 hv7
            go_wp2_with fail
            refine HP.out.mono ?_
            rintro e w9 ⟨rfl, rfl⟩
            go_wp2
            go_meet
            exact ⟨vs, us, F, hbo5, hinv⟩
          have dv2 : decide (7 < v) = false := by simpa using hv7
          obtain ⟨vn, rfl⟩ := Int.eq_ofNat_of_zero_le (show 0 ≤ v by omega)
          have hvn : vn < 8 := by omega
          have hvi : (vn : Int) < 8 := by omega
          have hvj : (0 : Int) ≤ vn := by omega
          have hcv := hbo5.qq.cell hvn
          obtain ⟨A6, c6, hvv, hc61, hc62⟩ := (hbo5.qq.row vn hvn).shape
          rw [hvv] at hcv
          clear hvv hv0 hv7
          cases hF : F vn with
          | nil =>
            have HP := Lib.hid (turn_none g vn vs F w5 w.heap.size hbo5.pp hvn hF)
            rw [hF] at hcv hc61
            clear hF
            go_wp2_with fail
            refine HP.out.mono ?_
            rintro e w9 ⟨rfl, rfl⟩
            go_wp2
            go_meet
            exact ⟨vs, us, F, hbo5, hinv⟩
          | cons x xs' =>
            have hxl : xs'.length ≤ 1000 := by have := hinv.len vn hvn; rw [hF] at this; simp at this; omega
            have HT := Lib.hid (turn26 q vn x xs' us F w5 w.heap.size hbo5.qq hbo5.low.size hvn hF hinv.len)
            have HT2 := Lib.hid (fun W (hp : PSt W w.heap.size g vs F) hB => turn_any g vn x xs' vs F W w.heap.size hp hB hvn hF hxl)
            have HCG := Lib.hid (hinv.turnF hvn hF)
            have HIN := Lib.hid (hinv.turn hvn hF)
            rw [hF] at hcv hc61
            simp only [List.length_cons] at hcv hc61
            have dl : (((xs'.length : Int) + 1) == 0) = false := beq_false_of_ne (by omega)
            clear hF
            generalize xs'.length = xl at *
            go_wp2_with fail
            refine HT.out.mono ?_
            rintro e w9 ⟨rfl, hgo9⟩
            obtain ⟨us', hbo9⟩ := hbo5.qgo hgo9
            have hbo9' := hbo9.qcongr HCG.out
            have HP := Lib.hid (HT2.out w9 hbo9'.pp hbo9'.low.size)
            have HB9 := Lib.hid hbo9'
            clear hbo9 hbo9' hgo9 hbo5 hq0 hcv
            go_wp2_with fail
            refine HP.out.mono ?_
            rintro e w10 ⟨rfl, hgo10⟩
            obtain ⟨vs', hbo10⟩ := HB9.out.pgo hgo10
            have HB10 := Lib.hid hbo10
            clear hbo10 hgo10
            go_wp2
            go_meet
            exact ⟨vs', us', _, HB10.out, HIN.out⟩
      have e3 : (y == 3) = false := by simpa using hy3
      clear hy1 hy2 hy3
      go_wp2
      go_meet
      exact ⟨vs, us, F, hbo5, hinv⟩
    case rest =>
      as_aux_lemma =>
        obtain ⟨vs, us, F, hbo, hinv⟩ := hcut
        have HQ1 := Lib.hid (first28 q us F _ _ hbo.qq)
        have HP1 := Lib.hid (first29 g vs F _ _ hbo.pp)
        have HLIST := Lib.hid (fun j (hj : j < 8) W (hp : PSt W w.heap.size g vs F) => list_any g j vs F W w.heap.size hp hj (hinv.len j hj))
        have HBIT := Lib.hid (fun W (hp : PSt W w.heap.size g vs F) => bits20 g vs F W w.heap.size hp)
        have HIN := Lib.hid hinv
        have HBO := Lib.hid hbo
        have hmk := mask_rng (full F) 8 (by omega)
        have hfr : ∃ X Y E : Int, firstX F = X ∧ firstY F = Y ∧ firstE F = E ∧ ((0 < X ∧ E = 0) ∨ (X = 0 ∧ E = 4)) := by
          refine ⟨_, _, _, rfl, rfl, rfl, ?_⟩
          unfold firstX firstE
          cases ht : topN (full F) 8 with
          | none => exact .inr ⟨rfl, rfl⟩
          | some k9 =>
            obtain ⟨h1, h2⟩ := topN_some ht
            have hfl : 0 < (F k9).length := by unfold full at h2; simpa using h2
            have hm : (F k9).getD 0 0 ∈ F k9 := by simp [List.getD, List.getElem?_eq_getElem hfl]
            have := hinv.rg k9 _ h1 hm
            exact .inl ⟨by show 0 < (F k9).getD 0 0; omega, rfl⟩
        obtain ⟨X, Y, E, hX, hY, hE, hXE⟩ := hfr
        rw [hX, hY] at HQ1
        rw [hX, hY, hE] at HP1
        have dX : (X != X) = false := by simp
        have dY : (Y != Y) = false := by simp
        clear hX hY hE hbo hinv
        rcases hXE with ⟨hx, rfl⟩ | ⟨rfl, rfl⟩
        rotate_left
        all_goals
          first
          | (have dx0 : decide (0 < X) = true := by simpa using hx
             have dx1 : (X == 0) = false := beq_false_of_ne (by omega)
             clear hx)
          | skip
          go_wp2_with fail
          refine HQ1.out.mono ?_
          rintro e w6 ⟨rfl, rfl⟩
          go_wp2_with fail
          refine HP1.out.mono ?_
          rintro e w6 ⟨rfl, rfl⟩
          go_wp2_with fail
          go_loopw [20, 21, 170] (fun m p i wr => ∃ j : Nat, j ≤ 8 ∧ i = .int .i64 j ∧ m = .int .i64 (maskB (full F) j) ∧ p = .int .i64 ((2 : Int) ^ j) ∧ Below wc.heap.size wc wr) (fun _ _ i _ => 8 - (intOf i).toNat)
          case atStart => exact ⟨0, by omega, rfl, rfl, rfl, Below.refl _ _⟩
          case round =>
            obtain ⟨j, hj, rfl, rfl, rfl, hbl⟩ := hrel
            have hboj := HBO.out.grow hbl
            by_cases hj8 : j < 8
            · have HL := Lib.hid (HLIST.out j hj8 wr hboj.pp)
              have hji : (j : Int) < 8 := by omega
              have hjj : (0 : Int) ≤ j := by omega
              have HBJ := Lib.hid hboj
              have HBL := Lib.hid hbl
              have hm0 := mask_rng (full F) j (by omega)
              have hp0 := pr_pow j (by omega)
              have hps := Lib.hid (show (2 : Int) ^ (j + 1) = 2 ^ j * 2 from Int.pow_succ 2 j)
              have hms := Lib.hid (show maskB (full F) (j + 1) = maskB (full F) j + (if full F j = true then (2 : Int) ^ j else 0) from rfl)
              have hfu : full F j = decide (0 < (F j).length) := rfl
              clear hboj hbl
              generalize maskB (full F) j = mm at *
              generalize (2 : Int) ^ j = pp at *
              go_wp2_with fail
              refine HL.out.mono ?_
              rintro e w6 ⟨A7, c7, rfl, hr7, hl7, hb7⟩
              have hbo6 := HBJ.out.grow hb7
              have hcv := hbo6.qq.cell hj8
              obtain ⟨A6, c6, hvv, hc61, hc62⟩ := (hbo6.qq.row j hj8).shape
              have hrow := hbo6.qq.row j hj8
              rw [hvv] at hcv hrow
              have HEQ := Lib.hid (equal_any A7 A6 (F j).length c7 (F j).length c6 (F j) (F j) w6 _ _ hr7 (RD.of_row hrow) (Nat.le_refl _) (Nat.le_refl _) hl7 hl7)
              rw [decide_eq_true (rfl : F j = F j)] at HEQ
              have HB6 := Lib.hid (HBL.out.trans (hb7.mono HBL.out.size))
              have hqz := hbo6.qq.blk.lt
              clear hbo6 hvv hrow hr7 hb7
              generalize (F j).length = l at *
              go_wp2_with fail
              refine HEQ.out.mono ?_
              rintro e w7 ⟨rfl, hb8⟩
              have HB7 := Lib.hid (HB6.out.trans (hb8.mono HB6.out.size))
              clear hb8
              by_cases hl0 : 0 < l
              · have dl : decide (0 < l) = true := decide_eq_true hl0
                have hms' : Hid (maskB (full F) (j + 1) = mm + pp) := Lib.hid (by rw [hms.out, hfu, decide_eq_true hl0, if_pos rfl])
                clear hl0 hfu
                go_wp2
                go_roundw
                case rel => exact ⟨j + 1, by omega, by go_num, by rw [hms'.out], by rw [hps.out], HB7.out⟩
                case measure => simp [intOf]; omega
              · have dl : decide (0 < l) = false := decide_eq_false hl0
                have hms' : Hid (maskB (full F) (j + 1) = mm) := Lib.hid (by rw [hms.out, hfu, decide_eq_false hl0, if_neg (by simp), Int.add_zero])
                clear hl0 hfu
                go_wp2
                go_roundw
                case rel => exact ⟨j + 1, by omega, by go_num, by rw [hms'.out], by rw [hps.out], HB7.out⟩
                case measure => simp [intOf]; omega
            · obtain rfl : j = 8 := by omega
              have HBI := Lib.hid (HBIT.out wr hboj.pp)
              have HFIN : Hid (PrRel w g q wr) := Lib.hid ⟨vs, us, F, hboj, HIN.out⟩
              have hme : maskB (full F) 8 = maskF F := rfl
              rw [hme]
              have dM : (maskF F != maskF F) = false := by simp
              clear hboj hbl hme hmk
              generalize maskF F = mm at *
              go_wp2_with fail
              refine (list_bad g 8 wr (by omega)).mono ?_
              rintro e w8 ⟨rfl, rfl⟩
              go_wp2_with fail
              refine HBI.out.mono ?_
              rintro e w8 ⟨rfl, rfl⟩
              go_wp2
              go_roundw
              case rel => exact ⟨k + 1, by omega, by go_num, HFIN.out⟩
              case measure => simp [intOf]; omega
end Go.Proofs.Ytenhcpobncmedaa
