/- Contract of Row of spin.Lock. -/
import Derived.Test.YtjcbnanajelpjaaSpA
import Derived.Test.YtjcbnanajelpjaaSpB
namespace Go.Proofs.Ytjcbnanajelpjaa
open Go.RowKit
set_option maxHeartbeats 400000
set_option linter.unusedVariables false
set_option linter.unusedSimpArgs false
def rowIn (row : List Int) (m i : Nat) : List Int := row.take m ++ (if row.getD m 0 < i then [row.getD m 0] else [])
theorem rowIn_hit {row : List Int} {m i : Nat} (h : row.getD m 0 = i) : rowIn row m (i + 1) = rowIn row m i ++ [(i : Int)] := by
  unfold rowIn
  rw [h, if_pos (by omega), if_neg (by omega)]; simp
theorem rowIn_miss {row : List Int} {m i : Nat} (h : ¬ row.getD m 0 = i) : rowIn row m (i + 1) = rowIn row m i := by
  unfold rowIn
  have : (row.getD m 0 < ((i + 1 : Nat) : Int)) ↔ (row.getD m 0 < (i : Int)) := by omega
  simp only [this]
theorem rowIn_zero {row : List Int} {m : Nat} (h : 0 ≤ row.getD m 0) : rowIn row m 0 = row.take m := by
  unfold rowIn
  rw [if_neg (by omega)]; simp
theorem rowIn_four {row : List Int} {m : Nat} (hm : m < row.length) (h : row.getD m 0 < 4) : rowIn row m 4 = row.take (m + 1) := by
  unfold rowIn
  rw [if_pos (by omega), List.take_succ_eq_append_getElem hm]
  simp [List.getD, List.getElem?_eq_getElem hm]
theorem rowIn_len (row : List Int) (m i : Nat) : (rowIn row m i).length ≤ m + 1 := by
  unfold rowIn
  split <;> simp <;> omega
theorem row_in0 {w : World} {B : Nat} {v : Value} {row : List Int} {m : Nat} (hm : m ≤ row.length) (h0 : 0 ≤ row.getD m 0) (h : Row w B 3 1 v m ((row.take m).map (Value.int .i64))) : Row w B 3 1 v (rowIn row m 0).length ((rowIn row m 0).map (Value.int .i64)) := by
  rw [rowIn_zero h0, List.length_take, Nat.min_eq_left hm]; exact h
theorem row_in4 {w : World} {B : Nat} {v : Value} {row : List Int} {m : Nat} (hm : m < row.length) (e : rowIn row m 4 = row.take (m + 1)) (h : Row w B 3 1 v (rowIn row m 4).length ((rowIn row m 4).map (Value.int .i64))) : Row w B 3 1 v (m + 1) ((row.take (m + 1)).map (Value.int .i64)) := by
  rw [e, List.length_take, Nat.min_eq_left (by omega)] at h; exact h
def RowPost (w : World) (row : List Int) (e : Ending) (w' : World) : Prop := ∃ v, e = .returned v ∧ Row w' w.heap.size 3 1 v row.length (row.map (Value.int .i64)) ∧ Below w.heap.size w w'
set_option maxHeartbeats 4000000 in
set_option maxRecDepth 100000 in
theorem lockRow_any (g : Nat) (w : World) {B : Nat} {nx cl : Int} {hs : List Bool} {tk : List Int} {row : List Int} (h : LockSt w B g nx cl hs tk) (hv : LInv row nx cl hs tk) : Calls Try.prog 54 #[.pointer (some ⟨g, 0, none⟩)] w (RowPost w row) := by
  obtain ⟨i0, hi, hz0, hz1, hz2⟩ := info_parts Try.infoInt
  have hlen := hv.len
  have hnx := h.nx
  have hcl := h.cl
  have hnext := Lib.hid hv.next
  have hc1 := h.c1
  have hlt := h.blk.lt
  unfold U16 at hnx hcl
  have e0 : Hid (cl = (cl + ((0 : Nat) : Int)) % 65536) := Lib.hid (by omega)
  go_enter Try.func54, Try.ntmps54
  go_wp2
  go_loopw [3, 4] (fun out nn wr => ∃ m : Nat, m ≤ row.length ∧ nn = .int .u16 ((cl + m) % 65536) ∧ Row wr w.heap.size 3 1 out m ((row.take m).map (Value.int .i64)) ∧ Below w.heap.size w wr) (fun _ nn _ => ((nx - intOf nn) % 65536).toNat)
  case atStart => exact ⟨0, by omega, by rw [← e0.out], Row.nil _ _ _ _, Below.refl _ _⟩
  case round =>
    obtain ⟨m, hm, rfl, hr, hb⟩ := hrel
    have hst := h.keep ((Fr.of_below hb)) (by omega)
    have hc0 := hst.c0
    have hltr := hst.blk.lt
    have hsz := hb.size
    by_cases hml : m < row.length
    · have hne : ((cl + m) % 65536 != nx) = true := by
        have := hv.stop m hm
        simp
        omega
      have hmem := hv.mem _ (getD_mem hml)
      have hr0 := row_in0 hm hmem.1 hr
      have hH := Lib.hid (rowIn_four hml hmem.2)
      have hW := Lib.hid (hv.who m hml)
      have hM : Hid (((nx - (cl + ((m + 1 : Nat) : Int)) % 65536) % 65536).toNat < ((nx - (cl + m) % 65536) % 65536).toNat) := Lib.hid (by have := hnext.out; omega)
      have hN : Hid (IntKind.u16.wrap ((cl + m) % 65536 + 1) = (cl + ((m + 1 : Nat) : Int)) % 65536) := Lib.hid (by rw [IntKind.wrap_u16]; omega)
      generalize hnn : (cl + (m : Int)) % 65536 = nn at *
      have HNN := Lib.hid hnn
      clear hnn
      go_wp2
      obtain ⟨wo, hwo⟩ : ∃ wo : World, wo = wr := ⟨_, rfl⟩
      subst hwo
      go_loopw [3, 18] (fun out ii wr => ∃ i : Nat, i ≤ 4 ∧ ii = .int .i64 i ∧ Row wr w.heap.size 3 1 out (rowIn row m i).length ((rowIn row m i).map (Value.int .i64)) ∧ Below w.heap.size w wr) (fun _ ii _ => 4 - (intOf ii).toNat)
      case atStart => exact ⟨0, by omega, rfl, hr0, hb⟩
      case round =>
        clear hr0 hr hc0 hltr hsz hst hb
        obtain ⟨i, hi4, rfl, hr, hb⟩ := hrel
        obtain ⟨A, c, rfl, hc81, hc82⟩ := hr.shape
        have hst := h.keep ((Fr.of_below hb)) (by omega)
        have hltr := hst.blk.lt
        have hsz := hb.size
        have hrl := rowIn_len row m i
        by_cases hlt4 : i < 4
        · have hch := hst.ch hlt4
          have hct := hst.ct hlt4
          have hw := Lib.hid (hW.out i hlt4)
          have hi4' : (i : Int) < 4 := by omega
          generalize hs.getD i false = hb1 at *
          generalize tk.getD i 0 = t at *
          have hhit := Lib.hid (rowIn_hit (row := row) (m := m) (i := i))
          have hmiss := Lib.hid (rowIn_miss (row := row) (m := m) (i := i))
          generalize rowIn row m i = zs at *
          by_cases hq : row.getD m 0 = i
          · have hy := Lib.hid (hhit.out hq)
            have hw' := hw.out
            rw [decide_eq_true hq, Bool.and_eq_true] at hw'
            obtain ⟨rfl, ht⟩ := hw'
            have HQ := Lib.hid hq
            clear hq
            go_wp2_with (at_builtin; refine wpList_append_row _ rfl (.tmp 37) (.tmp 39) 30 rfl w.heap.size 3 i0 (.int .i64 0) 1 8 Try.underlying30 hi hz0 hz1 hz2 rfl (by decide) (.slice A zs.length c) zs.length (zs.map (Value.int .i64)) rfl (hr.alloc _) (wr.heap.size + 1) (some ⟨wr.heap.size, 0, none⟩) 1 1 [.int .i64 i] rfl (reads_one wr (.int .i64 i) 3) (by simp [Value.oneCell']) (by unfold maxLen; omega) (by omega) (by simp; omega) ?_)
            intro A1 c1 w1 hr1 hg1 ho1
            have hb1 : Below w.heap.size w w1 := (hb.alloc hsz _).grown hg1 (by simp; omega) (fun k hk => (hr.lt k hk).1)
            have hr2 : Row w1 w.heap.size 3 1 (.slice A1 (zs.length + 1) c1) (rowIn row m (i + 1)).length ((rowIn row m (i + 1)).map (Value.int .i64)) := by rw [hy.out]; simpa using hr1
            clear hr1 hg1 ho1 hr
            go_wp2
            go_roundw
            case rel => exact ⟨i + 1, by omega, by go_num, hr2, hb1⟩
            case measure => simp [intOf]; omega
          · have hy := Lib.hid (hmiss.out hq)
            have hw' := hw.out
            rw [decide_eq_false hq] at hw'
            have hr2 : Row wr w.heap.size 3 1 (.slice A zs.length c) (rowIn row m (i + 1)).length ((rowIn row m (i + 1)).map (Value.int .i64)) := by rw [hy.out]; exact hr
            clear hr
            cases hb1 with
            | false =>
              go_wp2
              go_roundw
              case rel => exact ⟨i + 1, by omega, by go_num, hr2, hb⟩
              case measure => simp [intOf]; omega
            | true =>
              rw [Bool.true_and] at hw'
              go_wp2
              go_roundw
              case rel => exact ⟨i + 1, by omega, by go_num, hr2, hb⟩
              case measure => simp [intOf]; omega
        · obtain rfl : i = 4 := by omega
          have hr4 := row_in4 hml hH.out hr
          generalize (rowIn row m 4).length = ll at *
          have hN' := hN.out
          go_wp2
          go_roundw
          case rel => exact ⟨m + 1, by omega, rfl, hr4, hb⟩
          case measure => simpa [intOf] using hM.out
    · obtain rfl : m = row.length := by omega
      have hne : ((cl + row.length) % 65536 != nx) = false := by rw [hnext.out]; simp
      go_wp2
      go_ret
      exact ⟨_, rfl, by simpa using hr, hb⟩
end Go.Proofs.Ytjcbnanajelpjaa
