/- ringref4.wordAt (printed by mkWdN.py). -/
import Derived.Test.YtdhepkljidpigaaWdM
namespace Go.Proofs.Ytdhepkljidpigaa
open Go.RowKit
set_option maxHeartbeats 400000
set_option linter.unusedVariables false
set_option linter.unusedSimpArgs false
def opI : Option Nat → Int
  | none => -1
  | some b => b
def opLt : Option Nat → Nat → Prop
  | none, _ => True
  | some b, j => b < j
/-- What stands at the head of wordAt's loop. -/
structure AMid (w : World) (B : Nat) (s : ByteArray) (R : WRes) (v : Value) (j : Nat) (op : Option Nat) (A : Option Addr) (n c : Nat) (ps : List Pt) (wr : World) : Prop where
  val : v = .slice A n c
  pr : PR wr B (.slice A n c) n ps
  fr : FrB B w wr
  res : Hid (R = wd s ⟨j, op, ps⟩)
  le : j ≤ s.size
  few : Few j ps
  olt : opLt op j
def APost (B : Nat) (R : WRes) (w : World) (e : Ending) (w' : World) : Prop :=
  ∃ A n c k bad, e = .returned (.tuple #[.slice A n c, .int .i64 k, .int .i64 bad]) ∧ FrB B w w' ∧ match R with
  | .ok (ps, k0) => bad = -1 ∧ k = (k0 : Nat) ∧ PR w' B (.slice A n c) n ps
  | .error b => bad = (b : Nat)
theorem ch_eq {s : ByteArray} {j : Nat} (h : j < s.size) : ∃ a : UInt8, s.extract j (j + 1) = ⟨#[a]⟩ ∧ a.toNat = bt s j := by
  have hl : j < s.data.toList.length := by simpa using h
  refine ⟨s.data.toList[j], ByteArray.ext (Array.toList_inj.1 ?_), ?_⟩
  · rw [cut_list, List.take_succ_eq_append_getElem hl, List.drop_append_of_le_length (by simp; omega)]
    simp
  · unfold bt
    rw [nums_at s j h]
    rfl
theorem ch_is {s : ByteArray} {j : Nat} (h : j < s.size) (d : UInt8) : ((s.extract j (j + 1)).toList == [d]) = decide (bt s j = d.toNat) := by
  obtain ⟨a, h1, h2⟩ := ch_eq h
  rw [h1, ← h2, Bool.eq_iff_iff, ByteArray.toList_eq]
  simp only [beq_iff_eq, decide_eq_true_eq, List.cons.injEq, and_true]
  exact ⟨fun e => by rw [e], fun e => UInt8.toNat_inj.1 e⟩
theorem esc_any {s : ByteArray} {j : Nat} (h : j + 1 < s.size) (w : World) : Calls Try.prog 23 #[.string ⟨#[34, 92, 36]⟩, .string (s.extract (j + 1) (j + 2))] w fun e w' => e = .returned (.bool (escB (bt s (j + 1)))) ∧ w' = w := by
  obtain ⟨a, h1, h2⟩ := ch_eq h
  have hb : s.extract (j + 1) (j + 2) = ⟨#[a]⟩ := h1
  rw [hb, ← h2]
  refine (contains_one ⟨#[34, 92, 36]⟩ a w).mono ?_
  rintro e w' ⟨rfl, rfl⟩
  have h3 := escB_index a.toNat a.toNat_lt
  have : ((a.toNat : Int).toNat.toUInt8) = a := by rw [Int.toNat_natCast]; exact UInt8.ofNat_toNat
  rw [this] at h3
  exact ⟨by rw [← h3], rfl⟩
theorem sgn_dollar {s : ByteArray} {j : Nat} (h : j < s.size) (hc : bt s j = 36) : (opS (s.extract j s.size)).size = 0 := by
  have hl : j < s.data.toList.length := by simpa using h
  have e : (opS (s.extract j s.size)).data.toList = [] := by
    rw [opS_sgn, cut_list, List.take_of_length_le (by simp), List.drop_eq_getElem_cons hl]
    have h1 : (s.data.toList[j]).toNat = 36 := by
      rw [← hc]; unfold bt; rw [nums_at s j h]; rfl
    have h2 : s.data.toList[j] = 36 := UInt8.toNat_inj.1 h1
    rw [h2]
    cases s.data.toList.drop (j + 1) with
    | nil => rfl
    | cons b r => rfl
  have := congrArg List.length e
  simpa using this
theorem vl_le {s : ByteArray} {j N : Nat} (h : j < s.size) (hN : varN (s.extract (j + 1) s.size) = N) : j + 1 + N ≤ s.size := by
  have := varN_le (s.extract (j + 1) s.size)
  rw [cut_size, hN] at this
  omega
theorem AMid.next {w : World} {B : Nat} {s : ByteArray} {R : WRes} {v : Value} {j : Nat} {op : Option Nat} {A : Option Addr} {n c : Nat} {ps : List Pt} {wr : World} (h : AMid w B s R v j op A n c ps wr) {A' : Option Addr} {n' c' : Nat} {w' : World} {ps' : List Pt} {j' : Nat} {op' : Option Nat}
    (hp : PR w' B (.slice A' n' c') n' ps') (hf : FrB B wr w') (hr : wd s ⟨j, op, ps⟩ = wd s ⟨j', op', ps'⟩) (hj : j' ≤ s.size) (hw : Few j' ps') (ho : opLt op' j') : AMid w B s R (.slice A' n' c') j' op' A' n' c' ps' w' :=
  ⟨rfl, hp, h.fr.trans hf, Lib.hid (h.res.out.trans hr), hj, hw, ho⟩
theorem app_frB {w w' : World} {B n c : Nat} {A : Option Addr} {xs : List Value} {o : Obj} (h : Row w B 49 3 (.slice A n c) n xs) (hg : (w.alloc o).grownBy w' (Value.slice A n c).ownBlock) (hB : B ≤ w.heap.size) : FrB B w w' :=
  (FrB.of_below ((Below.refl w.heap.size w).alloc (Nat.le_refl _) o) hB).trans (grown_frB (h.alloc o) hg (by simp; omega))
theorem AMid.base {w : World} {B : Nat} {s : ByteArray} {R : WRes} {v : Value} {j : Nat} {op : Option Nat} {A : Option Addr} {n c : Nat} {ps : List Pt} {wr : World} (h : AMid w B s R v j op A n c ps wr) (hB : B ≤ w.heap.size) : B ≤ wr.heap.size := Nat.le_trans hB h.fr.size
set_option maxHeartbeats 4000000 in
set_option maxRecDepth 100000 in
theorem wordAt_any (B : Nat) (s : ByteArray) (w : World) (hB : B ≤ w.heap.size) (hs : s.size ≤ 200) :
    Calls Try.prog 14 #[.string s] w (APost B (wd s ⟨0, none, []⟩) w) := by
  obtain ⟨i0, hi, hz0, hz1, hz2⟩ := info_parts infoPt
  obtain ⟨R, hR⟩ : ∃ R, R = wd s ⟨0, none, []⟩ := ⟨_, rfl⟩
  rw [← hR]
  have HD : Hid (AMid w B s R (.slice none 0 0) 0 none none 0 0 [] w) := Lib.hid ⟨rfl, ⟨Row.nil _ _ _ _, rfl⟩, FrB.refl B w, Lib.hid hR, Nat.zero_le _, ⟨Nat.zero_le _, fun p hp => by simp at hp⟩, trivial⟩
  clear hR
  go_enter Try.func14, Try.ntmps14
  go_wp2_with fail
  go_loopw [5, 6, 7] (fun v5 v6 v7 wr => ∃ j op A n c ps, AMid w B s R v5 j op A n c ps wr ∧ v6 = .int .i64 j ∧ v7 = .int .i64 (opI op)) (fun _ v6 _ _ => s.size - (intOf v6).toNat)
  case atStart => exact ⟨0, none, none, 0, 0, [], HD.out, rfl, rfl⟩
  case round =>
    clear HD
    obtain ⟨j, op, A, n, c, ps, hm, rfl, rfl⟩ := hrel
    obtain rfl := hm.val
    have hbase := hm.base hB
    have hje := hm.le
    by_cases hlt : j < s.size
    rotate_left
    · obtain rfl : j = s.size := by omega
      cases op with
      | none =>
        have hst := Lib.hid (hm.res.out.trans stp_wx)
        go_wp2
        refine bodyPost_ret (v := .tuple #[.slice A n c, .int .i64 s.size, .int .i64 (-1)]) (by simp [results, Try.results14, go_sem, opI]) rfl ?_
        exact ⟨A, n, c, s.size, -1, rfl, hm.fr, by rw [hst.out]; exact ⟨rfl, rfl, hm.pr⟩⟩
      | some b =>
        have hst := Lib.hid (hm.res.out.trans stp_dx)
        go_wp2
        refine bodyPost_ret (v := .tuple #[.slice A n c, .int .i64 s.size, .int .i64 b]) (by simp [results, Try.results14, go_sem, opI]) rfl ?_
        exact ⟨A, n, c, s.size, b, rfl, hm.fr, by rw [hst.out]⟩
    have hq1 : (j : Int) < s.size := by omega
    have hq2 : (j : Int) ≤ (j : Int) + 1 := by omega
    have hq5 : (j : Int) + 1 ≤ s.size := by omega
    obtain ⟨cc, hcc⟩ : ∃ cc, bt s j = cc := ⟨_, rfl⟩
    have HC := Lib.hid hcc
    clear hcc
    cases op with
    | some b =>
      have ho1 : opI (some b) = b := rfl
      rw [ho1]
      have ho2 : decide ((0 : Int) ≤ b) = true := by simp
      have hbj : b < j := hm.olt
      by_cases d34 : cc = 34
      · subst d34
        have q34 : ((s.extract j (j + 1)).toList == [34]) = true := by rw [ch_is hlt, HC.out]; rfl
        have hst := stp_dq (b := b) (ps := ps) hlt HC.out
        by_cases e1 : j = b + 1
        · rw [if_pos e1] at hst
          subst e1
          have HST := Lib.hid hst
          clear hst
          go_wp2_with fail
          refine (joined_any B A n c ps ⟨#[]⟩ true wr hm.pr hbase (hm.few.more (by omega)) (by decide)).mono ?_
          rintro e w3 ⟨A3, n3, c3, rfl, hp3, hf3⟩
          have hx := hm.next (j' := b + 1 + 1) (op' := none) hp3 hf3 HST.out (by omega) (hm.few.add _ _ (by decide) (by decide)) (by first | exact trivial | (unfold opLt; omega))
          go_wp2
          go_roundw
          case rel => exact ⟨b + 1 + 1, none, _, _, _, _, hx, by go_num, rfl⟩
          case measure => simp [intOf]; omega
        · rw [if_neg e1] at hst
          have hbq : ((j : Int) == (b : Int) + 1) = false := by simp; omega
          have hx := hm.next (j' := j + 1) (op' := none) hm.pr (FrB.refl B wr) hst (by omega) (hm.few.more (by omega)) (by first | exact trivial | (unfold opLt; omega))
          clear hst
          go_wp2
          go_roundw
          case rel => exact ⟨j + 1, none, _, _, _, _, hx, by go_num, rfl⟩
          case measure => simp [intOf]; omega
      have q34 : ((s.extract j (j + 1)).toList == [34]) = false := by rw [ch_is hlt, HC.out]; exact decide_eq_false (by simpa using d34)
      by_cases d36 : cc = 36
      · subst d36
        have q36 : ((s.extract j (j + 1)).toList == [36]) = true := by rw [ch_is hlt, HC.out]; rfl
        have hN0 := vl_le hlt (rfl : varN (s.extract (j + 1) s.size) = _)
        have HVN := Lib.hid (fun W => variableAt_any (s.extract (j + 1) s.size) W (by simp; omega))
        have hst : wd s ⟨j, some b, ps⟩ = wd s ⟨varK s j, some b, varP s j ps true⟩ := stp_dv hlt HC.out
        unfold varK varP at hst
        obtain ⟨N, hN⟩ : ∃ N, varN (s.extract (j + 1) s.size) = N := ⟨_, rfl⟩
        rw [hN] at hN0 hst HVN
        have HST := Lib.hid hst
        clear hst hN
        unfold SaysB at HVN
        go_wp2_with fail
        refine (HVN.out wr).mono ?_
        rintro e w2 ⟨rfl, hb2⟩
        have hp2 := hm.pr.grow hb2
        have hB2 := Nat.le_trans hbase hb2.size
        have hf2 := FrB.of_below hb2 hbase
        clear hb2
        by_cases hN1 : N = 0
        · subst hN1
          have hst := HST.out
          rw [if_pos rfl] at hst
          go_wp2_with fail
          refine (joined_any B A n c ps ⟨#[36]⟩ true w2 hp2 hB2 (hm.few.more (by omega)) (by decide)).mono ?_
          rintro e w3 ⟨A3, n3, c3, rfl, hp3, hf3⟩
          have hx := hm.next (j' := j + 1) (op' := some b) hp3 (hf2.trans hf3) hst (by omega) (hm.few.add _ _ (by decide) (by decide)) (by first | exact trivial | (unfold opLt; omega))
          go_wp2
          go_roundw
          case rel => exact ⟨j + 1, some b, _, _, _, _, hx, by go_num, rfl⟩
          case measure => simp [intOf]; omega
        · have hN2 : ((N : Int) == 0) = false := by simp; omega
          have hst := HST.out
          rw [if_neg hN1] at hst
          have hr1 := hp2.1
          have hq3 : (j : Int) + 1 ≤ (j : Int) + 1 + N := by omega
          have hq4 : (j : Int) + 1 + N ≤ s.size := by omega
          have hn : n ≤ 1000 := by have := hm.few.1; have := hm.pr.2; omega
          go_wp2_with (at_builtin; refine wpList_append_row _ rfl (.tmp 58) (.tmp 69) 31 rfl B 49 i0 (.agg #[.string ⟨#[]⟩, .bool false, .bool false]) 3 24 Try.underlying31 hi hz0 hz1 hz2 rfl (by decide) (.slice A n c) n (ps.flatMap Pt.cells) rfl (hr1.alloc _) (w2.heap.size + 1) (some ⟨w2.heap.size, 0, none⟩) 1 1 (Pt.cells ⟨s.extract (j + 1) (j + 1 + N), true, true⟩) rfl (reads_cells w2 (Pt.cells ⟨s.extract (j + 1) (j + 1 + N), true, true⟩) 49 rfl) (pt_oneCell _) (by unfold maxLen; omega) (by omega) (by simp; omega) ?_)
          intro A3 c3 w3 hr3 hg3 ho3
          have hx := hm.next (j' := j + 1 + N) (op' := some b) (hp2.app hr3) (hf2.trans (app_frB hr1 hg3 hB2)) hst hN0 (by rw [Nat.add_assoc]; exact hm.few.snoc _ (by simp; omega) (by omega)) (by first | exact trivial | (unfold opLt; omega))
          clear hr3 hg3 ho3 hr1
          go_wp2
          go_roundw
          case rel => exact ⟨j + 1 + N, some b, _, _, _, _, hx, by go_num, rfl⟩
          case measure => simp [intOf]; omega
      have q36 : ((s.extract j (j + 1)).toList == [36]) = false := by rw [ch_is hlt, HC.out]; exact decide_eq_false (by simpa using d36)
      by_cases d92 : cc = 92
      · subst d92
        have q92 : ((s.extract j (j + 1)).toList == [92]) = true := by rw [ch_is hlt, HC.out]; rfl
        by_cases hl1 : j + 1 < s.size
        · have hl2 : (j : Int) + 1 < s.size := by omega
          have hl3 : (j : Int) + 2 ≤ s.size := by omega
          have hl4 : (j : Int) + 1 ≤ (j : Int) + 2 := by omega
          have hl5 : (0 : Int) ≤ (j : Int) + 1 := by omega
          have hl6 : decide ((j : Int) + 1 < s.size) = true := by simp; omega
          have HE := Lib.hid (fun W => esc_any hl1 W)
          cases he : escB (bt s (j + 1)) with
          | true =>
            have hst := Lib.hid (stp_de (b := b) (ps := ps) hlt HC.out hl1 he)
            rw [he] at HE
            clear he
            go_wp2_with fail
            refine (HE.out wr).mono ?_
            rintro e w2 ⟨rfl, rfl⟩
            go_wp2_with fail
            refine (joined_any B A n c ps (s.extract (j + 1) (j + 2)) true w2 hm.pr hbase (hm.few.more (by omega)) (by simp; omega)).mono ?_
            rintro e w5 ⟨A3, n3, c3, rfl, hp3, hf3⟩
            have hx := hm.next (j' := j + 2) (op' := some b) hp3 hf3 hst.out (by omega) (by first | exact hm.few.add _ _ (by simp; omega) (by omega) | (rw [Nat.add_assoc]; exact hm.few.add _ _ (by simp; omega) (by omega))) (by first | exact trivial | (unfold opLt; omega))
            go_wp2
            go_roundw
            case rel => exact ⟨j + 2, some b, _, _, _, _, hx, by go_num, rfl⟩
            case measure => simp [intOf]; omega
          | false =>
            have hst := Lib.hid (stp_dd (b := b) (ps := ps) hlt (by rw [HC.out]; decide) (by rw [HC.out]; decide) (by rw [he]; simp))
            rw [he] at HE
            clear he
            go_wp2_with fail
            refine (HE.out wr).mono ?_
            rintro e w2 ⟨rfl, rfl⟩
            go_wp2_with fail
            refine (joined_any B A n c ps (s.extract j (j + 1)) true w2 hm.pr hbase (hm.few.more (by omega)) (by simp; omega)).mono ?_
            rintro e w5 ⟨A3, n3, c3, rfl, hp3, hf3⟩
            have hx := hm.next (j' := j + 1) (op' := some b) hp3 hf3 hst.out (by omega) (by first | exact hm.few.add _ _ (by simp; omega) (by omega) | (rw [Nat.add_assoc]; exact hm.few.add _ _ (by simp; omega) (by omega))) (by first | exact trivial | (unfold opLt; omega))
            go_wp2
            go_roundw
            case rel => exact ⟨j + 1, some b, _, _, _, _, hx, by go_num, rfl⟩
            case measure => simp [intOf]; omega
        · have hst := Lib.hid (stp_dd (b := b) (ps := ps) hlt (by rw [HC.out]; decide) (by rw [HC.out]; decide) (fun h => hl1 h.2.1))
          have hl6 : decide ((j : Int) + 1 < s.size) = false := by simp; omega
          go_wp2_with fail
          refine (joined_any B A n c ps (s.extract j (j + 1)) true wr hm.pr hbase (hm.few.more (by omega)) (by simp; omega)).mono ?_
          rintro e w5 ⟨A3, n3, c3, rfl, hp3, hf3⟩
          have hx := hm.next (j' := j + 1) (op' := some b) hp3 hf3 hst.out (by omega) (by first | exact hm.few.add _ _ (by simp; omega) (by omega) | (rw [Nat.add_assoc]; exact hm.few.add _ _ (by simp; omega) (by omega))) (by first | exact trivial | (unfold opLt; omega))
          go_wp2
          go_roundw
          case rel => exact ⟨j + 1, some b, _, _, _, _, hx, by go_num, rfl⟩
          case measure => simp [intOf]; omega
      have q92 : ((s.extract j (j + 1)).toList == [92]) = false := by rw [ch_is hlt, HC.out]; exact decide_eq_false (by simpa using d92)
      have hst := Lib.hid (stp_dd (b := b) (ps := ps) hlt (by rw [HC.out]; exact d34) (by rw [HC.out]; exact d36) (fun h => d92 (by rw [← HC.out]; exact h.1)))
      go_wp2_with fail
      refine (joined_any B A n c ps (s.extract j (j + 1)) true wr hm.pr hbase (hm.few.more (by omega)) (by simp; omega)).mono ?_
      rintro e w5 ⟨A3, n3, c3, rfl, hp3, hf3⟩
      have hx := hm.next (j' := j + 1) (op' := some b) hp3 hf3 hst.out (by omega) (by first | exact hm.few.add _ _ (by simp; omega) (by omega) | (rw [Nat.add_assoc]; exact hm.few.add _ _ (by simp; omega) (by omega))) (by first | exact trivial | (unfold opLt; omega))
      go_wp2
      go_roundw
      case rel => exact ⟨j + 1, some b, _, _, _, _, hx, by go_num, rfl⟩
      case measure => simp [intOf]; omega
    | none =>
      have ho1 : opI none = -1 := rfl
      rw [ho1]
      have ho2 : decide ((0 : Int) ≤ -1) = false := rfl
      obtain ⟨O, hO⟩ : ∃ O, opS (s.extract j s.size) = O := ⟨_, rfl⟩
      have HOO := Lib.hid hO
      have HOC := Lib.hid (fun W => signAt_any (s.extract j s.size) W (by simp; omega))
      rw [hO] at HOC
      clear hO
      unfold Says at HOC
      by_cases d36 : cc = 36
      · subst d36
        have hno := Lib.hid (show ¬ (bt s j = 32 ∨ (opS (s.extract j s.size)).size ≠ 0) from fun h => by rw [HC.out, sgn_dollar hlt HC.out] at h; omega)
        have q36 : ((s.extract j (j + 1)).toList == [36]) = true := by rw [ch_is hlt, HC.out]; rfl
        have hN0 := vl_le hlt (rfl : varN (s.extract (j + 1) s.size) = _)
        have HVN := Lib.hid (fun W => variableAt_any (s.extract (j + 1) s.size) W (by simp; omega))
        have hst : wd s ⟨j, none, ps⟩ = wd s ⟨varK s j, none, varP s j ps false⟩ := stp_wv hlt hno.out HC.out
        unfold varK varP at hst
        obtain ⟨N, hN⟩ : ∃ N, varN (s.extract (j + 1) s.size) = N := ⟨_, rfl⟩
        rw [hN] at hN0 hst HVN
        have HST := Lib.hid hst
        clear hst hN
        unfold SaysB at HVN
        go_wp2_with fail
        refine (HVN.out wr).mono ?_
        rintro e w2 ⟨rfl, hb2⟩
        have hp2 := hm.pr.grow hb2
        have hB2 := Nat.le_trans hbase hb2.size
        have hf2 := FrB.of_below hb2 hbase
        clear hb2
        by_cases hN1 : N = 0
        · subst hN1
          have hst := HST.out
          rw [if_pos rfl] at hst
          go_wp2_with fail
          refine (joined_any B A n c ps ⟨#[36]⟩ false w2 hp2 hB2 (hm.few.more (by omega)) (by decide)).mono ?_
          rintro e w3 ⟨A3, n3, c3, rfl, hp3, hf3⟩
          have hx := hm.next (j' := j + 1) (op' := none) hp3 (hf2.trans hf3) hst (by omega) (hm.few.add _ _ (by decide) (by decide)) (by first | exact trivial | (unfold opLt; omega))
          go_wp2
          go_roundw
          case rel => exact ⟨j + 1, none, _, _, _, _, hx, by go_num, rfl⟩
          case measure => simp [intOf]; omega
        · have hN2 : ((N : Int) == 0) = false := by simp; omega
          have hst := HST.out
          rw [if_neg hN1] at hst
          have hr1 := hp2.1
          have hq3 : (j : Int) + 1 ≤ (j : Int) + 1 + N := by omega
          have hq4 : (j : Int) + 1 + N ≤ s.size := by omega
          have hn : n ≤ 1000 := by have := hm.few.1; have := hm.pr.2; omega
          go_wp2_with (at_builtin; refine wpList_append_row _ rfl (.tmp 58) (.tmp 69) 31 rfl B 49 i0 (.agg #[.string ⟨#[]⟩, .bool false, .bool false]) 3 24 Try.underlying31 hi hz0 hz1 hz2 rfl (by decide) (.slice A n c) n (ps.flatMap Pt.cells) rfl (hr1.alloc _) (w2.heap.size + 1) (some ⟨w2.heap.size, 0, none⟩) 1 1 (Pt.cells ⟨s.extract (j + 1) (j + 1 + N), true, false⟩) rfl (reads_cells w2 (Pt.cells ⟨s.extract (j + 1) (j + 1 + N), true, false⟩) 49 rfl) (pt_oneCell _) (by unfold maxLen; omega) (by omega) (by simp; omega) ?_)
          intro A3 c3 w3 hr3 hg3 ho3
          have hx := hm.next (j' := j + 1 + N) (op' := none) (hp2.app hr3) (hf2.trans (app_frB hr1 hg3 hB2)) hst hN0 (by rw [Nat.add_assoc]; exact hm.few.snoc _ (by simp; omega) (by omega)) (by first | exact trivial | (unfold opLt; omega))
          clear hr3 hg3 ho3 hr1
          go_wp2
          go_roundw
          case rel => exact ⟨j + 1 + N, none, _, _, _, _, hx, by go_num, rfl⟩
          case measure => simp [intOf]; omega
      have q36 : ((s.extract j (j + 1)).toList == [36]) = false := by rw [ch_is hlt, HC.out]; exact decide_eq_false (by simpa using d36)
      by_cases d32 : cc = 32
      · subst d32
        have q32 : ((s.extract j (j + 1)).toList == [32]) = true := by rw [ch_is hlt, HC.out]; rfl
        have hst := Lib.hid (hm.res.out.trans (stp_wo hlt (.inl HC.out)))
        go_wp2
        refine bodyPost_ret (v := .tuple #[.slice A n c, .int .i64 j, .int .i64 (-1)]) (by simp [results, Try.results14, go_sem, opI]) rfl ?_
        exact ⟨A, n, c, j, -1, rfl, hm.fr, by rw [hst.out]; exact ⟨rfl, rfl, hm.pr⟩⟩
      have q32 : ((s.extract j (j + 1)).toList == [32]) = false := by rw [ch_is hlt, HC.out]; exact decide_eq_false (by simpa using d32)
      by_cases dO : O.size = 0
      rotate_left
      · have hst := Lib.hid (hm.res.out.trans (stp_wo hlt (.inr (by rw [HOO.out]; exact dO))))
        have hOe := bytes_some dO
        go_wp2_with fail
        refine (HOC.out wr).mono ?_
        rintro e w2 ⟨rfl, rfl⟩
        go_wp2
        refine bodyPost_ret (v := .tuple #[.slice A n c, .int .i64 j, .int .i64 (-1)]) (by simp [results, Try.results14, go_sem, opI]) rfl ?_
        exact ⟨A, n, c, j, -1, rfl, hm.fr, by rw [hst.out]; exact ⟨rfl, rfl, hm.pr⟩⟩
      have hOe := bytes_none dO
      have hno := Lib.hid (show ¬ (bt s j = 32 ∨ (opS (s.extract j s.size)).size ≠ 0) from fun h => by rw [HC.out, HOO.out] at h; omega)
      go_wp2_with fail
      refine (HOC.out wr).mono ?_
      rintro e w2 ⟨rfl, rfl⟩
      by_cases d34 : cc = 34
      · subst d34
        have q34 : ((s.extract j (j + 1)).toList == [34]) = true := by rw [ch_is hlt, HC.out]; rfl
        have hx := hm.next (j' := j + 1) (op' := some j) hm.pr (FrB.refl B w2) (stp_wq hlt hno.out HC.out) (by omega) (hm.few.more (by omega)) (by first | exact trivial | (unfold opLt; omega))
        go_wp2
        go_roundw
        case rel => exact ⟨j + 1, some j, _, _, _, _, hx, by go_num, rfl⟩
        case measure => simp [intOf]; omega
      have q34 : ((s.extract j (j + 1)).toList == [34]) = false := by rw [ch_is hlt, HC.out]; exact decide_eq_false (by simpa using d34)
      by_cases d39 : cc = 39
      · subst d39
        have q39 : ((s.extract j (j + 1)).toList == [39]) = true := by rw [ch_is hlt, HC.out]; rfl
        have HI := Lib.hid (fun W => index_one (s.extract (j + 1) s.size) 39 W)
        have hq0 : Lib.indexByte (s.extract (j + 1) s.size).data.toList 39 = qi s j := rfl
        rw [hq0] at HI
        have HSG := Lib.hid (stp_ws (ps := ps) hlt hno.out HC.out)
        unfold sgl at HSG
        have HQ := qi_spec s j
        generalize qi s j = Q at *
        clear hq0
        rcases HQ with rfl | ⟨i, rfl, hi1⟩
        · have hst := Lib.hid (hm.res.out.trans HSG.out)
          rw [if_pos (show (-1 : Int) < 0 by omega)] at hst
          have hqq : decide ((-1 : Int) < 0) = true := rfl
          go_wp2_with fail
          refine (HI.out w2).mono ?_
          rintro e w3 ⟨rfl, rfl⟩
          go_wp2
          refine bodyPost_ret (v := .tuple #[.slice none 0 0, .int .i64 0, .int .i64 j]) (by simp [results, Try.results14, go_sem, opI]) rfl ?_
          exact ⟨none, 0, 0, 0, j, rfl, hm.fr, by rw [hst.out]; exact rfl⟩
        · have hst := Lib.hid HSG.out
          rw [if_neg (show ¬ (i : Int) < 0 by omega), Int.toNat_natCast] at hst
          have hqq : decide ((i : Int) < 0) = false := by simp
          have hq3 : (j : Int) + 1 ≤ (j : Int) + 1 + i := by omega
          have hq4 : (j : Int) + 1 + i ≤ s.size := by omega
          go_wp2_with fail
          refine (HI.out w2).mono ?_
          rintro e w3 ⟨rfl, rfl⟩
          go_wp2_with fail
          refine (joined_any B A n c ps (s.extract (j + 1) (j + 1 + i)) true w3 hm.pr hbase (hm.few.more (by omega)) (by simp; omega)).mono ?_
          rintro e w5 ⟨A3, n3, c3, rfl, hp3, hf3⟩
          have hx := hm.next (j' := j + 2 + i) (op' := none) hp3 hf3 hst.out (by omega) (by first | exact hm.few.add _ _ (by simp; omega) (by omega) | (rw [Nat.add_assoc]; exact hm.few.add _ _ (by simp; omega) (by omega))) (by first | exact trivial | (unfold opLt; omega))
          go_wp2
          go_roundw
          case rel => exact ⟨j + 2 + i, none, _, _, _, _, hx, by go_num, rfl⟩
          case measure => simp [intOf]; omega
      have q39 : ((s.extract j (j + 1)).toList == [39]) = false := by rw [ch_is hlt, HC.out]; exact decide_eq_false (by simpa using d39)
      by_cases d92 : cc = 92
      · subst d92
        have q92 : ((s.extract j (j + 1)).toList == [92]) = true := by rw [ch_is hlt, HC.out]; rfl
        by_cases hl1 : j + 1 = s.size
        · have hst := Lib.hid (hm.res.out.trans (stp_wb hno.out HC.out hl1))
          have hq3 : ((j : Int) + 1 == s.size) = true := by simp; omega
          clear hl1
          go_wp2
          refine bodyPost_ret (v := .tuple #[.slice none 0 0, .int .i64 0, .int .i64 j]) (by simp [results, Try.results14, go_sem, opI]) rfl ?_
          exact ⟨none, 0, 0, 0, j, rfl, hm.fr, by rw [hst.out]⟩
        · have hst := Lib.hid (stp_we (ps := ps) hlt hno.out HC.out hl1)
          have hq3 : ((j : Int) + 1 == s.size) = false := by simp; omega
          have hl3 : (j : Int) + 2 ≤ s.size := by omega
          have hl4 : (j : Int) + 1 ≤ (j : Int) + 2 := by omega
          have hl5 : (0 : Int) ≤ (j : Int) + 1 := by omega
          go_wp2_with fail
          refine (joined_any B A n c ps (s.extract (j + 1) (j + 2)) true w2 hm.pr hbase (hm.few.more (by omega)) (by simp; omega)).mono ?_
          rintro e w5 ⟨A3, n3, c3, rfl, hp3, hf3⟩
          have hx := hm.next (j' := j + 2) (op' := none) hp3 hf3 hst.out (by omega) (by first | exact hm.few.add _ _ (by simp; omega) (by omega) | (rw [Nat.add_assoc]; exact hm.few.add _ _ (by simp; omega) (by omega))) (by first | exact trivial | (unfold opLt; omega))
          go_wp2
          go_roundw
          case rel => exact ⟨j + 2, none, _, _, _, _, hx, by go_num, rfl⟩
          case measure => simp [intOf]; omega
      have q92 : ((s.extract j (j + 1)).toList == [92]) = false := by rw [ch_is hlt, HC.out]; exact decide_eq_false (by simpa using d92)
      have hst := Lib.hid (stp_wd (ps := ps) hlt hno.out (by rw [HC.out]; exact d39) (by rw [HC.out]; exact d34) (by rw [HC.out]; exact d36) (by rw [HC.out]; exact d92))
      go_wp2_with fail
      refine (joined_any B A n c ps (s.extract j (j + 1)) false w2 hm.pr hbase (hm.few.more (by omega)) (by simp; omega)).mono ?_
      rintro e w5 ⟨A3, n3, c3, rfl, hp3, hf3⟩
      have hx := hm.next (j' := j + 1) (op' := none) hp3 hf3 hst.out (by omega) (by first | exact hm.few.add _ _ (by simp; omega) (by omega) | (rw [Nat.add_assoc]; exact hm.few.add _ _ (by simp; omega) (by omega))) (by first | exact trivial | (unfold opLt; omega))
      go_wp2
      go_roundw
      case rel => exact ⟨j + 1, none, _, _, _, _, hx, by go_num, rfl⟩
      case measure => simp [intOf]; omega
end Go.Proofs.Ytdhepkljidpigaa
