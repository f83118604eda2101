/- Contracts of Go, Turn and First of ringref1.Prio. -/
import Derived.Test.YtenhcpobncmedaaPrG
namespace Go.Proofs.Ytenhcpobncmedaa
open Go.RowKit
set_option maxHeartbeats 400000
set_option linter.unusedVariables false
set_option linter.unusedSimpArgs false
def QSt (w : World) (B q : Nat) (vs : Nat → Value) (F : Nat → List Int) : Prop := Arr w B q 47 [] 8 [] vs F
def QGo (w : World) (B q : Nat) (vs : Nat → Value) (F : Nat → List Int) (w' : World) : Prop := ArrGo w B q 47 8 vs [] [] F w'
theorem QSt.rd {w : World} {B g : Nat} {vs : Nat → Value} {F : Nat → List Int} (h : QSt w B g vs F) : ArrR w g 0 F := Arr.reads h
theorem QSt.cell {w : World} {B g i : Nat} {vs : Nat → Value} {F : Nat → List Int} (h : QSt w B g vs F) (hi : i < 8) : w.cell? ⟨g, i, none⟩ = some (vs i) := by
  have := Arr.cell h hi
  rwa [List.length_nil, Nat.zero_add] at this
def goTo (F : Nat → List Int) (t : Int) (k i : Nat) : List Int := if i < k then without (F i) t else F i
theorem goTo_zero (F : Nat → List Int) (t : Int) : goTo F t 0 = F := by funext i; simp [goTo]
theorem goTo_next (F : Nat → List Int) (t : Int) (k : Nat) : updV (goTo F t k) k (without (F k) t) = goTo F t (k + 1) := by
  funext i
  unfold updV goTo
  by_cases h : i = k
  · subst h; simp
  · rw [if_neg h]
    by_cases h2 : i < k
    · rw [if_pos h2, if_pos (by omega)]
    · rw [if_neg h2, if_neg (by omega)]
def GoPost (w : World) (B q : Nat) (vs : Nat → Value) (F : Nat → List Int) (e : Ending) (w' : World) : Prop := e = .returned (.tuple #[]) ∧ QGo w B q vs F w'
theorem without_take {xs : List Int} {t : Int} {j : Nat} (h : j < xs.length) : without (xs.take (j + 1)) t = without (xs.take j) t ++ (if (xs.getD j 0 != t) = true then [xs.getD j 0] else []) := by
  unfold without
  have : xs.getD j 0 = xs[j] := by simp [List.getD, List.getElem?_eq_getElem h]
  rw [List.take_succ_eq_append_getElem h, List.filter_append, this]
  by_cases h' : xs[j] = t <;> simp [h']
theorem without_len (xs : List Int) (t : Int) (j : Nat) : (without (xs.take j) t).length ≤ xs.length := by
  unfold without
  have := List.length_filter_le (· != t) (xs.take j)
  rw [List.length_take] at this
  omega
set_option maxHeartbeats 1000000 in
set_option maxRecDepth 100000 in
theorem go25 (q : Nat) (t : Int) (vs : Nat → Value) (F : Nat → List Int) (w : World) (B : Nat) (h : QSt w B q vs F) (hB : B ≤ w.heap.size) (hl : ∀ i, i < 8 → (F i).length ≤ 1000) :
    Calls Try.prog 25 #[.pointer (some ⟨q, 0, none⟩), .int .i64 t] w (GoPost w B q vs (goTo F t 8)) := by
  obtain ⟨i0, hi, hz0, hz1, hz2⟩ := info_parts infoInt9
  have hq := h.blk.lt
  go_enter Try.func25, Try.ntmps25
  go_wp2
  go_loopw [11] (fun i wr => ∃ k : Nat, k ≤ 8 ∧ i = .int .i64 k ∧ QGo w B q vs (goTo F t k) wr) (fun i _ => 8 - (intOf i).toNat)
  case atStart => exact ⟨0, by omega, rfl, by rw [goTo_zero]; exact ⟨vs, h, Fr.refl _ _, fun k hk => .inl hk⟩⟩
  case round =>
    obtain ⟨k, hk, rfl, vs1, h1, hf1, ho1⟩ := hrel
    have h1 : QSt wr B q vs1 (goTo F t k) := h1
    by_cases hlt : k < 8
    · obtain ⟨A, c, hvv, hc1, hc2⟩ := (h1.row k hlt).shape
      have hFk : goTo F t k k = F k := by unfold goTo; rw [if_neg (by omega)]
      have hrow := h1.row k hlt
      have hcv := h1.cell hlt
      rw [hFk] at hvv hrow hc1
      rw [hvv] at hcv hrow
      have hlt8 : (k : Int) < 8 := by omega
      have hk0 : (0 : Int) ≤ k := by omega
      have hlk := hl k hlt
      have hrd := RD.of_row hrow
      have HG := Lib.hid h1
      have HF1 := Lib.hid hf1
      have HO1 := Lib.hid ho1
      have hql := h1.blk.lt
      have hBw : B ≤ wr.heap.size := Nat.le_trans hB hf1.size
      clear h1 hf1 ho1 hvv hFk hrow
      obtain ⟨W0, hW⟩ : ∃ W, W = wr := ⟨_, rfl⟩
      subst hW
      generalize hL : F k = L at *
      have HL := Lib.hid hL
      clear hL
      have hlen := hrd.len
      have HLN := Lib.hid hlen
      clear hlen
      generalize hll : L.length = l at *
      have HLL := Lib.hid hll
      clear hll
      go_wp2
      go_quiet (fail)
      go_wp2
      go_loopw [6, 19] (fun v j wr => ∃ m : Nat, m ≤ l ∧ j = .int .i64 m ∧ Row wr W0.heap.size 3 1 v (without (L.take m) t).length ((without (L.take m) t).map (Value.int .i64)) ∧ Below W0.heap.size W0 wr) (fun _ j _ => l - (intOf j).toNat)
      case atStart => exact ⟨0, by omega, rfl, by simp [without]; exact Row.nil _ _ _ _, sl_below_drewN (Below.refl _ _) _⟩
      case round =>
        obtain ⟨m, hm, rfl, hr, hbw⟩ := hrel
        have hsz := hbw.size
        by_cases hml : m < l
        · obtain ⟨b, o, rfl, hb, hcx⟩ := (hrd.below' hbw (Nat.le_refl _)).at_ hml
          have hwt := Lib.hid (without_take (t := t) (show m < L.length by rw [HLL.out]; exact hml))
          have hwl := without_len L t m
          rw [HLL.out] at hwl
          obtain ⟨A6, c6, hv6, hc61, hc62⟩ := hr.shape
          subst hv6
          have hob := hr.lt
          generalize L.getD m 0 = y at *
          by_cases hyt : y = t
          · have d : (y != t) = false := by simpa using hyt
            have hwt' : Hid (without (L.take (m + 1)) t = without (L.take m) t) := Lib.hid (by rw [hwt.out, d]; simp)
            clear hyt hwt
            go_wp2
            go_roundw
            case rel => exact ⟨m + 1, by omega, by go_num, by rw [hwt'.out]; exact hr, hbw⟩
            case measure => simp [intOf]; omega
          · have d : (y != t) = true := by simpa using hyt
            have hwt' : Hid (without (L.take (m + 1)) t = without (L.take m) t ++ [y]) := Lib.hid (by rw [hwt.out, d]; rfl)
            have HAP := Lib.hid (fun w8 v8 (h8 : Row w8 W0.heap.size 3 1 v8 ((without (L.take m) t).length + 1) ((without (L.take m) t).map (Value.int .i64) ++ [.int .i64 y])) => (show Row w8 W0.heap.size 3 1 v8 (without (L.take (m + 1)) t).length ((without (L.take (m + 1)) t).map (Value.int .i64)) by rw [hwt'.out, List.length_append, List.map_append]; exact h8))
            clear hyt hwt
            generalize (without (L.take m) t).map (Value.int .i64) = oc at *
            generalize (without (L.take m) t).length = ol at *
            go_wp2_with (at_builtin; refine wpList_append_row _ rfl (.tmp 26) (.tmp 28) 45 rfl W0.heap.size 3 i0 (.int .i64 0) 1 8 Try.underlying45 hi hz0 hz1 hz2 rfl (by decide) (.slice A6 ol c6) ol oc rfl (hr.alloc _) (wr.heap.size + 1) (some ⟨wr.heap.size, 0, none⟩) 1 1 [.int .i64 y] rfl (reads_one wr (.int .i64 y) 3) (by simp [Value.oneCell']) (by unfold maxLen; omega) (by omega) (by simp; omega) ?_)
            intro A8 c8 w8 hr8 hg8 ho8
            have hb8 : Below W0.heap.size W0 w8 := (hbw.alloc hsz _).grown hg8 (hbw.alloc hsz _).size (fun k hk => (hob k hk).1)
            have hr8' := HAP.out w8 _ hr8
            clear hg8 ho8 hr8 hr hbw
            go_wp2
            go_roundw
            case rel => exact ⟨m + 1, by omega, by go_num, hr8', hb8⟩
            case measure => simp [intOf]; omega
        · obtain rfl : m = l := by omega
          have hall : L.take m = L := List.take_of_length_le (by rw [HLL.out]; exact Nat.le_refl _)
          rw [hall] at hr
          obtain ⟨ka, kb, kc, kd⟩ := Arr.app HG.out hlt ((Fr.of_grow hbw).mono (fun _ _ h => h.elim))
          have ka1 : wr.cell? ⟨q, k, none⟩ = some (vs1 k) := by rwa [List.length_nil, Nat.zero_add] at ka
          have kb1 := kb k
          obtain ⟨A6, c6, hv6, hc61, hc62⟩ := hr.shape
          subst hv6
          have hgo := ArrGo.put HG.out hlt ((Fr.of_grow hbw).mono (fun _ _ h => h.elim)) (hr.base_le hBw) (fun j hj => .inr (hr.lt j hj).1)
          rw [List.length_nil, Nat.zero_add] at hgo
          rw [← HL.out, goTo_next] at hgo
          have hgo2 := Lib.hid (ArrGo.trans HF1.out HO1.out hgo)
          clear kd ka hr hbw hall hgo
          rw [HL.out] at hgo2
          generalize (without L t).length = wl at *
          go_wp2
          go_roundw
          case rel => exact ⟨k + 1, by omega, by go_num, hgo2.out⟩
          case measure => simp [intOf]; omega
    · obtain rfl : k = 8 := by omega
      go_wp2
      refine bodyPost_ret (v := .tuple #[]) (by simp [results, Try.results25, go_sem]) rfl ?_
      exact ⟨rfl, vs1, h1, hf1, ho1⟩
set_option maxRecDepth 100000 in
theorem first28 (q : Nat) (vs : Nat → Value) (F : Nat → List Int) (w : World) (B : Nat) (h : QSt w B q vs F) :
    Calls Try.prog 28 #[.pointer (some ⟨q, 0, none⟩)] w fun e w' => e = .returned (.tuple #[.int .i64 (firstX F), .int .i64 (firstY F)]) ∧ w = w' := by
  have hlt := h.blk.lt
  have H := Lib.hid h
  go_enter Try.func28, Try.ntmps28
  go_wp2
  go_loop [4] (fun i => ∃ k : Nat, k ≤ 8 ∧ i = .int .i64 ((k : Int) - 1) ∧ Hid (topN (full F) 8 = topN (full F) k)) (fun i => (intOf i + 1).toNat)
  case atStart => exact ⟨8, by omega, rfl, Lib.hid rfl⟩
  case round =>
    obtain ⟨k, hk, rfl, hT⟩ := hrel
    rcases k with _ | k
    · have hT' : Hid (topN (full F) 8 = none) := Lib.hid hT.out
      have e1 : Hid (firstX F = 0) := Lib.hid (by unfold firstX; rw [hT'.out])
      have e2 : Hid (firstY F = 0) := Lib.hid (by unfold firstY; rw [hT'.out])
      go_wp2
      go_ret2
      rw [e1.out, e2.out]
      exact ⟨rfl, rfl⟩
    · have hk8 : k < 8 := by omega
      have hkk : ((k + 1 : Nat) : Int) - 1 = k := by omega
      rw [hkk]
      have hk0 : decide ((0 : Int) ≤ k) = true := by simp
      have hki : (k : Int) < 8 := by omega
      have hkj : (0 : Int) ≤ k := by omega
      have hcv := H.out.cell hk8
      obtain ⟨A, c, hvv, hc1, hc2⟩ := (H.out.row k hk8).shape
      have hrow := H.out.row k hk8
      rw [hvv] at hcv hrow
      have hTT : topN (full F) (k + 1) = if full F k = true then some k else topN (full F) k := rfl
      by_cases hfl : 0 < (F k).length
      · obtain ⟨b, o, rfl, hb, hx⟩ := (RD.of_row hrow).at_ hfl
        rw [Nat.add_zero] at hx
        have hT' : topN (full F) 8 = some k := by rw [hT.out, hTT, if_pos (by unfold full; simpa using hfl)]
        have e1 : Hid (firstX F = (F k).getD 0 0) := Lib.hid (by unfold firstX; rw [hT'])
        have e2 : Hid (firstY F = k) := Lib.hid (by unfold firstY; rw [hT'])
        have hq : decide ((0 : Int) < (F k).length) = true := decide_eq_true (show (0 : Int) < ((F k).length : Int) by omega)
        clear hT' hTT hvv hrow h hT
        generalize (F k).getD 0 0 = y at *
        generalize (F k).length = l at *
        go_wp2
        go_ret2
        rw [e1.out, e2.out]
        exact ⟨rfl, rfl⟩
      · have hT' : Hid (topN (full F) 8 = topN (full F) k) := Lib.hid (by rw [hT.out, hTT, if_neg (by unfold full; simpa using hfl)])
        have hl0 : (F k).length = 0 := by omega
        have hq : decide ((0 : Int) < (F k).length) = false := decide_eq_false (show ¬ (0 : Int) < ((F k).length : Int) by omega)
        clear hTT hvv hrow h hT hl0
        generalize (F k).length = l at *
        go_wp2
        go_round
        case rel => exact ⟨k, by omega, rfl, hT'⟩
        case measure => simp [intOf] <;> omega
theorem QSt.drew {w : World} {B g : Nat} {vs : Nat → Value} {F : Nat → List Int} (h : QSt w B g vs F) : QSt w.drew B g vs F := Arr.drew h
theorem qr_app {w w1 : World} {B q v c c1 ol : Nat} {A A1 : Option Addr} {t : Int} {vs : Nat → Value} {F : Nat → List Int} (h : QSt w B q vs F) (hv : v < 8)
    (hr : Row w1 B 3 1 (.slice A1 (ol + 1) c1) (ol + 1) ((F v).map (Value.int .i64) ++ [.int .i64 t])) (hf : Fr (fun k => (Value.slice A ol c).ownBlock = some k) w w1)
    {N9 : Nat} (hN : w.heap.size ≤ N9) (ho : (Value.slice A1 (ol + 1) c1).ownBlock = (Value.slice A ol c).ownBlock ∨ (Value.slice A1 (ol + 1) c1).ownBlock = some N9) (hvv : vs v = .slice A ol c) (hol : (F v).length = ol) :
    QGo w B q vs (updV F v (F v ++ [t])) (w1.setCell ⟨q, v, none⟩ (.slice A1 (ol + 1) c1)) := by
  have ho' : ∀ k, (Value.slice A1 (ol + 1) c1).ownBlock = some k → (vs v).ownBlock = some k ∨ w.heap.size ≤ k := fun k hk => by
    rcases own_cases ho hk with h1 | h1
    · exact .inl (by rw [hvv]; exact h1)
    · exact .inr (by omega)
  have hr' : Row w1 B 3 1 (.slice A1 (ol + 1) c1) (F v ++ [t]).length ((F v ++ [t]).map (Value.int .i64)) := by
    have e : (F v ++ [t]).length = ol + 1 := by simp [hol]
    rw [e]; simpa using hr
  have := ArrGo.put h hv (by rw [hvv]; exact hf) hr' ho'
  rwa [List.length_nil, Nat.zero_add] at this
set_option maxHeartbeats 1000000 in
set_option maxRecDepth 100000 in
theorem turn26 (q v : Nat) (x : Int) (xs : List Int) (vs : Nat → Value) (F : Nat → List Int) (w : World) (B : Nat) (h : QSt w B q vs F) (hB : B ≤ w.heap.size) (hv : v < 8) (he : F v = x :: xs) (hl : ∀ i, i < 8 → (F i).length ≤ 1000) :
    Calls Try.prog 26 #[.pointer (some ⟨q, 0, none⟩), .int .i64 v] w (GoPost w B q vs (updV (goTo F x 8) v (goTo F x 8 v ++ [x]))) := by
  obtain ⟨i0, hi, hz0, hz1, hz2⟩ := info_parts infoInt9
  have hlt := h.blk.lt
  have hcv := h.cell hv
  obtain ⟨A, c, hvv, hc1, hc2⟩ := (h.row v hv).shape
  have hrow := h.row v hv
  rw [hvv, he] at hcv
  rw [hvv, he] at hrow
  rw [he] at hc1
  simp only [List.length_cons] at hcv hrow hc1
  obtain ⟨g2, o2, e2, hg2, hx0⟩ := (RD.of_row hrow).at_ (i := 0) (by omega)
  subst e2
  rw [Nat.add_zero] at hx0
  have hx0 : w.cell? ⟨g2, o2, none⟩ = some (.int .i64 x) := hx0
  have hv8 : (v : Int) < 8 := by omega
  have hv0 : (0 : Int) ≤ v := by omega
  have HG := Lib.hid (go25 q x vs F w B h hB hl)
  have hln : Hid ((goTo F x 8 v).length ≤ 1000) := Lib.hid (by
    unfold goTo; rw [if_pos hv]
    have := List.length_filter_le (· != x) (F v)
    have := hl v hv
    unfold without; omega)
  clear hvv hrow h
  generalize xs.length = xl at *
  go_enter Try.func26, Try.ntmps26
  go_wp2_with fail
  refine HG.out.mono ?_
  rintro e w1 ⟨rfl, vs1, h1, hf1, ho1⟩
  have h1 : QSt w1 B q vs1 (goTo F x 8) := h1
  have HF1 := Lib.hid hf1
  have HO1 := Lib.hid ho1
  have hBw : B ≤ w1.heap.size := Nat.le_trans hB hf1.size
  have hcv1 := h1.cell hv
  obtain ⟨A1, c1, hvv1, hc11, hc12⟩ := (h1.row v hv).shape
  have hrow1 := h1.row v hv
  rw [hvv1] at hcv1 hrow1
  have hlt1 := h1.blk.lt
  have hfz1 := h1.blk.free
  have hln' := hln.out
  have H1 := Lib.hid h1
  clear hf1 ho1 hcv hx0 h1
  have HGO := Lib.hid (fun w9 A9 c9 N9 hr hf hN ho => qr_app (w1 := w9) (A1 := A9) (c1 := c9) (t := x) H1.out hv hr hf (N9 := N9) hN ho hvv1 rfl)
  have HAP := Lib.hid (fun w9 (hf : Fr (fun k => (vs1 v).ownBlock = some k) w1 w9) => Arr.app H1.out hv hf)
  have HV := Lib.hid hvv1
  clear hvv1
  generalize (goTo F x 8 v).map (Value.int .i64) = oc at *
  generalize (goTo F x 8 v).length = ol at *
  go_wp2
  go_region_law (refine step_append_row rfl (.tmp 21) (.tmp 23) 45 rfl B 3 i0 (.int .i64 0) 1 8 Try.underlying45 hi hz0 hz1 hz2 rfl (by decide) (.slice A1 ol c1) ol oc (by simp [Act.eval, Act.put]) (hrow1.drew.alloc (.cells #[.int .i64 x] 3)) (w1.heap.size + 1) (some ⟨w1.heap.size, 0, none⟩) 1 1 [.int .i64 x] (by simp [Act.eval, Act.put]) (reads_one w1.drew (.int .i64 x) 3) (by simp [Value.oneCell']) (by unfold maxLen; omega) (by omega) (by simp; omega) ?_; intro A9 c9 w9 hr9 hg9 ho9; have hf9 := pr_app_fr hg9; have hf9' : Fr (fun k => (vs1 v).ownBlock = some k) w1 w9 := (by rw [HV.out]; exact hf9); obtain ⟨ka, kb, kc, kd⟩ := HAP.out w9 hf9'; have kb1 := kb v; have ka1 : w9.cell? ⟨q, v, none⟩ = some (vs1 v) := (kd v).trans (by have := arrC_at [] vs1 [] hv; rwa [List.length_nil, Nat.zero_add] at this); rw [HV.out] at ka1; clear kd ka)
  all_goals
    have hres := Lib.hid (HGO.out w9 A9 c9 _ hr9 hf9 (by simp) ho9)
    go_wp2
    refine bodyPost_ret (v := .tuple #[]) (by simp [results, Try.results26, go_sem]) rfl ?_
    exact ⟨rfl, ArrGo.trans HF1.out HO1.out hres.out⟩
end Go.Proofs.Ytenhcpobncmedaa
