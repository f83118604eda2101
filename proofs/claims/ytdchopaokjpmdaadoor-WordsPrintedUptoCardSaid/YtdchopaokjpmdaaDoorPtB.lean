/- words.Quote, ringref4.WordQuote. -/
import Derived.Test.YtdchopaokjpmdaaDoorPtA
import Derived.Lib.AtoiErrMem
namespace Go.Proofs.YtdchopaokjpmdaaDoor
open Go.RowKit
set_option maxHeartbeats 400000
set_option linter.unusedVariables false
set_option linter.unusedSimpArgs false
def SaysB (v : Value) (w : World) (e : Ending) (w' : World) : Prop := e = .returned v ∧ Below w.heap.size w w'
theorem data_len (s : ByteArray) : s.data.toList.length = s.size := by simp
set_option maxRecDepth 100000 in
theorem quote_any (s : ByteArray) (w : World) (hs : s.size ≤ 1048576) (hv : VarOk w) : Calls Tryd.prog 4 #[.string s] w (SaysB (.string (bs (quoteL s.data.toList))) w) := by
  obtain ⟨_, m, hm⟩ := hv
  have hc : Lib.countB s ⟨#[39]⟩ ≤ s.size + 1 := by
    have := Lib.count_le s.data.toList [39]
    rw [data_len] at this
    exact this
  have HR := Lib.hid (replaceAll_any s ⟨#[39]⟩ ⟨#[39, 92, 39, 39]⟩ m w (by omega) hm (by decide) (by
    have h4 : (⟨#[39, 92, 39, 39]⟩ : ByteArray).size = 4 := rfl
    rw [h4]; omega))
  have e0 : Lib.replaceAll s.data.toList (⟨#[39]⟩ : ByteArray).data.toList (⟨#[39, 92, 39, 39]⟩ : ByteArray).data.toList = qL s.data.toList := replaceAll_q _
  rw [e0] at HR
  have hl := qL_len s.data.toList
  rw [data_len] at hl
  have E : Hid (bs (quoteL s.data.toList) = ⟨#[39]⟩ ++ bs (qL s.data.toList) ++ ⟨#[39]⟩) := Lib.hid (by
    have h1 : (⟨#[39]⟩ : ByteArray) = bs [39] := rfl
    rw [h1, bs_append, bs_append]; rfl)
  have hz := bs_size (qL s.data.toList)
  generalize bs (qL s.data.toList) = T at *
  have hT : T.size ≤ 4194304 := by omega
  clear hm hc e0 hl hz
  have h1 : (⟨#[39]⟩ : ByteArray).size = 1 := rfl
  have h2 : ¬ 9223372036854775807 < 1 + T.size := by omega
  go_enter Tryd.func4, Tryd.ntmps4
  go_wp2_with fail
  refine HR.out.mono ?_
  rintro e w1 ⟨rfl, hb⟩
  go_wp2
  go_ret
  exact ⟨by rw [E.out]; rfl, hb⟩
theorem qL_snoc (l : List UInt8) (b : UInt8) : qL (l ++ [b]) = qL l ++ (if b = 39 then [39, 92, 39, 39] else [b]) := by
  unfold qL
  rw [List.flatMap_append]
  simp
theorem byte_cell (w : World) (s : ByteArray) {k : Nat} (h : k < s.data.toList.length) : (Lib.bytesWorld w 5 s).cell? ⟨w.heap.size, k, none⟩ = some (.int .u8 (s.data.toList[k]).toNat) := by
  have h' : k < s.size := by rw [← data_len]; exact h
  rw [Lib.bytesWorld_cell w 5 s k h']
  simp [List.getD, List.getElem?_eq_getElem h]
theorem one_string (W : World) (b : UInt8) : (convert 29 9 (.slice (some ⟨W.heap.size, 0, none⟩) 1 1)).run Tryd.prog (W.alloc (.cells #[.int .u8 b.toNat] 5)) = .ok (.string (bs [b])) (W.alloc (.cells #[.int .u8 b.toNat] 5)) := by
  have h := (RB.new W 5 [(b.toNat : Int)] (fun x hx => by simp at hx; subst hx; have := b.toNat_lt; omega)).conv (P := Tryd.prog) 1 29 9 5 Tryd.underlying29 Tryd.underlying5 Tryd.underlying9
  have e : strOfNums [(b.toNat : Int)] = bs [b] := by simp [strOfNums]
  rw [e] at h
  exact h
set_option maxHeartbeats 2000000 in
set_option maxRecDepth 100000 in
theorem wordQuote_any (s : ByteArray) (w : World) (hs : s.size ≤ 1048576) : Calls Tryd.prog 5 #[.string s] w (SaysB (.string (bs (quoteL s.data.toList))) w) := by
  have hsb := fun W s => Lib.run_convert_string_bytes (P := Tryd.prog) W 9 29 5 s Tryd.underlying9 Tryd.underlying29 Tryd.underlying5
  have HBW := Lib.hid (show Below w.heap.size w (Lib.bytesWorld w 5 s) from below_bytes _ _ _)
  have HL := Lib.hid (data_len s)
  have h39 : Hid ((⟨#[39]⟩ : ByteArray) = bs (39 :: qL (s.data.toList.take 0))) := Lib.hid rfl
  go_enter Tryd.func5, Tryd.ntmps5
  go_wp2
  go_loopw [3, 9] (fun v3 v9 wr => ∃ (k : Nat) (T : ByteArray), k ≤ s.size ∧ v3 = .string T ∧ v9 = .int .i64 k ∧ Hid (T = bs (39 :: qL (s.data.toList.take k))) ∧ Below (Lib.bytesWorld w 5 s).heap.size (Lib.bytesWorld w 5 s) wr) (fun _ v9 _ => s.size - (intOf v9).toNat)
  case atStart => exact ⟨0, _, Nat.zero_le _, rfl, rfl, h39, Below.refl _ _⟩
  case round =>
    obtain ⟨k, T, hk, rfl, rfl, hT, hbw⟩ := hrel
    by_cases hlt : k < s.size
    · have hkl : k < s.data.toList.length := by rw [HL.out]; exact hlt
      have hc := (hbw.cell (p := ⟨w.heap.size, k, none⟩) (by rw [Lib.bytesWorld_size]; simp)).trans (byte_cell w s hkl)
      have hst : s.data.toList.take (k + 1) = s.data.toList.take k ++ [s.data.toList[k]] := List.take_succ_eq_append_getElem hkl
      have HST := Lib.hid hst
      clear hst
      generalize s.data.toList[k] = b at *
      have hki : (k : Int) < s.size := by omega
      have hconv := fun W => one_string W b
      have hTs : T.size ≤ 4194305 := by
        rw [hT.out, bs_size]
        have h1 := qL_len (s.data.toList.take k)
        rw [List.length_take, HL.out] at h1
        simp only [List.length_cons]
        have := Nat.min_le_left k s.size
        omega
      have n1 : ¬ 9223372036854775807 < T.size + 3 := by omega
      have n2 : ¬ 9223372036854775807 < T.size + 3 + 1 := by omega
      have n3 : ¬ 9223372036854775807 < T.size + 1 := by omega
      have hb2 := hbw.alloc hbw.size (.cells #[.int .u8 b.toNat] 5)
      by_cases d : b = 39
      · have hx : Hid (T ++ ⟨#[39, 92, 39]⟩ ++ bs [b] = bs (39 :: qL (s.data.toList.take (k + 1)))) := Lib.hid (by
          rw [HST.out, qL_snoc, hT.out, show (⟨#[39, 92, 39]⟩ : ByteArray) = bs [39, 92, 39] from rfl, bs_append, bs_append, d]
          simp)
        have q : (((b.toNat : Nat) : Int) == 39) = true := by rw [d]; rfl
        clear d
        go_wp2
        go_roundw
        case rel => exact ⟨k + 1, _, by omega, rfl, by go_num, hx, hb2⟩
        case measure => simp [intOf]; omega
      · have hx : Hid (T ++ bs [b] = bs (39 :: qL (s.data.toList.take (k + 1)))) := Lib.hid (by
          rw [HST.out, qL_snoc, hT.out, if_neg d, bs_append]
          simp)
        have q : (((b.toNat : Nat) : Int) == 39) = false := by
          rw [beq_eq_false_iff_ne]
          intro e
          exact d (UInt8.toNat_inj.1 (show b.toNat = 39 by omega))
        go_wp2
        go_roundw
        case rel => exact ⟨k + 1, _, by omega, rfl, by go_num, hx, hb2⟩
        case measure => simp [intOf]; omega
    · obtain rfl : k = s.size := by omega
      have hTs : T.size ≤ 4194305 := by
        rw [hT.out, bs_size]
        have h1 := qL_len (s.data.toList.take s.size)
        rw [List.length_take, HL.out] at h1
        simp only [List.length_cons]
        omega
      have n3 : ¬ 9223372036854775807 < T.size + 1 := by omega
      have hx : Hid (bs (quoteL s.data.toList) = T ++ ⟨#[39]⟩) := Lib.hid (by
        rw [hT.out, List.take_of_length_le (by rw [HL.out]; exact Nat.le_refl _), show (⟨#[39]⟩ : ByteArray) = bs [39] from rfl, bs_append]
        rfl)
      have hfin := HBW.out.trans (hbw.mono HBW.out.size)
      go_wp2
      go_ret
      exact ⟨by rw [hx.out]; rfl, hfin⟩
end Go.Proofs.YtdchopaokjpmdaaDoor
