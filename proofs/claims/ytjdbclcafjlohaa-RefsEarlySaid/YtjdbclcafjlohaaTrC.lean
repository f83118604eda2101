/- Contract of ringref4.TraceBytes. -/
import Derived.Test.YtjdbclcafjlohaaTrB
namespace Go.Proofs.Ytjdbclcafjlohaa
open Go.RowKit
set_option maxHeartbeats 400000
set_option linter.unusedVariables false
set_option linter.unusedSimpArgs false
theorem errs_good (rs : List Rc) (h : errs rs = 0) : ∀ j, j < rs.length → (rs.getD j .zero).err = 0 := by
  induction rs with
  | nil => intro j hj; simp at hj
  | cons a rs ih =>
    unfold errs at h
    split at h
    · rename_i ha
      intro j hj
      cases j with
      | zero => simpa using ha
      | succ j => have := ih h j (by simpa using hj); simpa using this
    · contradiction
theorem traceErr_good {rs : List Rc} (h : traceErr rs = 0) : rs.length ≤ 400 ∧ ∀ j, j < rs.length → (rs.getD j .zero).err = 0 := by
  unfold traceErr at h
  split at h
  · cases h
  · exact ⟨by omega, errs_good rs h⟩
theorem Rc.bytes' (r : Rc) : r.bytes = [4 * r.k + r.c, r.t, r.o] := by unfold Rc.bytes; rw [Int.mul_comm]
set_option maxRecDepth 100000 in
theorem traceBytes_any (A : Option Addr) (n c : Nat) (rs : List Rc) (w : World) (B : Nat) (h : RR w B A n rs) (hB : B ≤ w.heap.size) (hn : n ≤ 9223372036854775807) :
    Calls Try.prog 13 #[.slice A n c] w (EncPost w rs) := by
  have HL := Lib.hid h.2
  by_cases ht : traceErr rs = 0
  · obtain ⟨hsm, hgd⟩ := traceErr_good ht
    have hsm' : n ≤ 400 := by rw [HL.out] at hsm; exact hsm
    have HG := Lib.hid hgd
    have HT := Lib.hid ht
    clear hsm hgd
    go_enter Try.func13, Try.ntmps13
    go_wp2_with (go_at_call 37; refine (fault_any A n c rs _ B h hB hn).mono ?_; rintro e w1 ⟨rfl, hb1⟩; rw [ht])
    clear ht
    go_loopw [5, 15] (fun v i wr => ∃ k : Nat, k ≤ n ∧ i = .int .i64 k ∧ v = .string (strOfNums (encB (rs.take k))) ∧ Below w.heap.size w wr) (fun _ i _ => n - (intOf i).toNat)
    case atStart => exact ⟨0, by omega, rfl, rfl, hb1⟩
    case round =>
      obtain ⟨k, hk, rfl, rfl, hbw⟩ := hrel
      by_cases hlt : k < n
      · obtain ⟨b, o, rfl, hb, c0, c1, c2, c3⟩ := (h.below' hbw hB).at_ hlt
        have hET := Lib.hid (encB_take rs k (by rw [HL.out]; exact hlt))
        have he := HG.out k (by rw [HL.out]; exact hlt)
        generalize hr : rs.getD k .zero = r at *
        clear hr
        have hgd := Rc.good he
        have hbr := Rc.byt he
        have hl : (encB (rs.take k)).length ≤ 1200 := by rw [encB_len, List.length_take]; omega
        generalize encB (rs.take k) = E at *
        rw [Rc.bytes'] at hbr hET
        have hr : RB ((wr.alloc (.cells #[.int .i64 r.k, .int .i64 r.c, .int .i64 r.t, .int .i64 r.o] 24)).alloc (.cells #[.int .u8 (4 * r.k + r.c), .int .u8 r.t, .int .u8 r.o] 5)) (wr.heap.size + 1 + 1) (some ⟨wr.heap.size + 1, 0, none⟩) 3 [4 * r.k + r.c, r.t, r.o] := by
          have := RB.new (wr.alloc (.cells #[.int .i64 r.k, .int .i64 r.c, .int .i64 r.t, .int .i64 r.o] 24)) 5 [4 * r.k + r.c, r.t, r.o] hbr
          simp only [World.size_alloc] at this
          exact this
        have e1 := hr.conv (P := Try.prog) 3 25 9 5 Try.underlying25 Try.underlying5 Try.underlying9
        have hszs : ∀ l, (strOfNums l).size = l.length := strOfNums_size
        clear hr he
        go_wp2
        go_roundw
        case rel => exact ⟨k + 1, by omega, by go_num, by rw [hET.out, strOfNums_append], (hbw.alloc hbw.size _).alloc (by simp; exact Nat.le_succ_of_le hbw.size) _⟩
        case measure => simp [intOf]; omega
      · have hbt := encB_byt rs HG.out
        rw [List.take_of_length_le (by rw [HL.out]; omega)]
        have hszs : ∀ l, (strOfNums l).size = l.length := strOfNums_size
        have hl : (encB rs).length ≤ 1200 := by rw [encB_len, HL.out]; omega
        have hrr := Lib.hid (RB.bytes wr 5 (encB rs) hbt)
        have hbb := Lib.hid (below_bytes wr 5 (strOfNums (encB rs)))
        generalize hE : encB rs = E at *
        have HE := Lib.hid hE
        clear hbt hE
        have hsb := fun W s => Lib.run_convert_string_bytes (P := Try.prog) W 9 25 5 s Try.underlying9 Try.underlying25 Try.underlying5
        go_wp2
        go_ret2
        exact .good HT.out (by rw [HE.out]; exact hrr.out.more (by rw [Lib.bytesWorld_size]; exact Nat.le_refl _)) (hbw.trans (hbb.out.mono hbw.size))
  · have ht' : (traceErr rs != 0) = true := by simpa using ht
    go_enter Try.func13, Try.ntmps13
    go_wp2_with (go_at_call 37; refine (fault_any A n c rs _ B h hB hn).mono ?_; rintro e w1 ⟨rfl, hb1⟩)
    go_ret2
    exact .bad rfl ht hb1
end Go.Proofs.Ytjdbclcafjlohaa
