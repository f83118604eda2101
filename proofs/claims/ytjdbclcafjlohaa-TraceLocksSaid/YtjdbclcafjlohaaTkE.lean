/- The locks that a task holds: the plain law, and the contract of trace.Held. -/
import Derived.Test.YtjdbclcafjlohaaTkD
namespace Go.Proofs.Ytjdbclcafjlohaa
open Go.RowKit
set_option maxHeartbeats 400000
set_option linter.unusedVariables false
set_option linter.unusedSimpArgs false
/-- A list without the first x. -/
def without1 (l : List Int) (x : Int) : List Int := match l.findIdx? (· == x) with | some i => l.eraseIdx i | none => l
def hd1 (t : Int) (l : List Int) (r : Rc) : List Int := if r.t = t then (if r.k = 1 then l ++ [r.o] else if r.k = 2 then without1 l r.o else l) else l
def hd (rs : List Rc) (t : Int) : List Int := rs.foldl (hd1 t) []
theorem hd_take (rs : List Rc) (k : Nat) (h : k < rs.length) (t : Int) : hd (rs.take (k + 1)) t = hd1 t (hd (rs.take k) t) (rs.getD k .zero) := by
  unfold hd
  rw [List.take_succ_eq_append_getElem h, List.foldl_append]
  simp [List.getD, List.getElem?_eq_getElem h]
theorem without1_len (l : List Int) (x : Int) : (without1 l x).length ≤ l.length := by
  unfold without1
  split
  · exact List.length_eraseIdx_le l _
  · exact Nat.le_refl _
theorem hd_len (rs : List Rc) (t : Int) (k : Nat) (h : k ≤ rs.length) : (hd (rs.take k) t).length ≤ k := by
  induction k with
  | zero => simp [hd]
  | succ k ih =>
    rw [hd_take rs k (by omega)]
    have h1 := ih (by omega)
    generalize rs.getD k .zero = r
    have h2 := without1_len (hd (rs.take k) t) r.o
    unfold hd1
    (repeat' split) <;> simp <;> omega
theorem idxI_cases (l : List Int) (x : Int) : (idxI l x = -1 ∧ without1 l x = l) ∨ ∃ i : Nat, i < l.length ∧ idxI l x = i ∧ without1 l x = l.eraseIdx i := by
  unfold idxI without1
  cases h : l.findIdx? (· == x) with
  | none => exact .inl ⟨rfl, rfl⟩
  | some i => exact .inr ⟨i, (List.findIdx?_eq_some_iff_getElem.1 h).1, rfl, rfl⟩
def heldOf (rs : List Rc) (t : Int) : List Int := if traceErr rs = 0 then hd rs t else []
def HeldPost (rs : List Rc) (t : Int) (w : World) (e : Ending) (w' : World) : Prop :=
  ∃ A m c, e = .returned (.tuple #[.slice A m c, .int .i64 (traceErr rs)]) ∧ RD w' w'.heap.size A m (heldOf rs t) ∧ m ≤ 400 ∧ Below w.heap.size w w'
def HeldRel (w : World) (rs : List Rc) (t : Int) (k : Nat) (v : Value) (wr : World) : Prop :=
  Row wr w.heap.size 3 1 v (hd (rs.take k) t).length ((hd (rs.take k) t).map (Value.int .i64)) ∧ Below w.heap.size w wr
theorem HeldRel.mk' {w wr : World} {rs : List Rc} {t : Int} {k : Nat} {v : Value} {l : List Int} {m : Nat} (hl : hd (rs.take k) t = l) (hm : m = l.length) (hr : Row wr w.heap.size 3 1 v m (l.map (Value.int .i64))) (hb : Below w.heap.size w wr) : HeldRel w rs t k v wr := by
  subst hl; subst hm; exact ⟨hr, hb⟩
theorem reads_two (w : World) (X : Obj) (u : Value) (t : TypeId) : Reads ((w.alloc X).alloc (.cells #[u] t)) (w.heap.size + 2) 1 (some ⟨w.heap.size + 1, 0, none⟩) 1 [u] := by
  have := reads_one (w.alloc X) u t
  simpa using this
theorem map_eraseIdx {α β : Type} (f : α → β) (l : List α) (i : Nat) : (l.map f).eraseIdx i = (l.eraseIdx i).map f := by
  rw [List.eraseIdx_eq_take_drop_succ, List.eraseIdx_eq_take_drop_succ]; simp [List.map_take, List.map_drop]
set_option maxHeartbeats 4000000 in
set_option maxRecDepth 100000 in
theorem held_any (A : Option Addr) (n c : Nat) (rs : List Rc) (t : Int) (w : World) (B : Nat) (h : RR w B A n rs) (hB : B ≤ w.heap.size) (hn : n ≤ 9223372036854775807) :
    Calls Try.prog 26 #[.slice A n c, .int .i64 t] w (HeldPost rs t w) := by
  have HL := Lib.hid h.2
  obtain ⟨i0, hi, hz0, hz1, hz2⟩ := info_parts Try.infoI
  by_cases ht : traceErr rs = 0
  · obtain ⟨hsm, hgd⟩ := traceErr_good ht
    have hsm' : n ≤ 400 := by rw [HL.out] at hsm; exact hsm
    have HT := Lib.hid ht
    have HF := Lib.hid (show heldOf rs t = hd rs t from if_pos ht)
    clear hsm hgd
    go_enter Try.func26, Try.ntmps26
    go_wp2_with (go_at_call 41; refine (tchecked_any A n c rs _ B h hB hn).mono ?_; rintro e w1 ⟨rfl, hb1⟩; rw [ht])
    clear ht
    have hrel0 : HeldRel w rs t 0 (.slice none 0 0) w1 := ⟨Row.nil _ _ _ _, hb1⟩
    go_loopw [7, 18] (fun v i wr => ∃ k : Nat, k ≤ n ∧ i = .int .i64 k ∧ HeldRel w rs t k v wr) (fun _ i _ => n - (intOf i).toNat)
    case atStart => exact ⟨0, by omega, rfl, hrel0⟩
    case round =>
      obtain ⟨k, hk, rfl, hrow, hbw⟩ := hrel
      clear hrel0
      have hll := hd_len rs t k (by rw [HL.out]; exact hk)
      obtain ⟨A7, c7, hv, hc1, hc2⟩ := hrow.shape
      subst hv
      by_cases hlt : k < n
      · obtain ⟨b, of, rfl, hb, d0, d1, d2, d3⟩ := (h.below' hbw hB).at_ hlt
        have hlen : k < rs.length := by rw [HL.out]; exact hlt
        have hT := Lib.hid (hd_take rs k hlen t)
        have hbw' : ∀ X, Below w.heap.size w (wr.alloc X) := fun X => hbw.alloc hbw.size X
        generalize rs.getD k .zero = r at *
        generalize hd (rs.take k) t = l at *
        unfold maxLen at hc2
        by_cases htt : r.t = t
        · have htt' : (r.t != t) = false := by simpa using htt
          have hT2 := Lib.hid (hT.out.trans (if_pos htt))
          clear hT htt
          by_cases k1 : r.k = 1
          · have hT3 := Lib.hid (hT2.out.trans (if_pos k1))
            clear hT2
            go_wp2_with (at_builtin; refine wpList_append_row _ rfl (.tmp 30) (.tmp 33) 44 rfl w.heap.size 3 i0 (.int .i64 0) 1 8 Try.underlying44 hi hz0 hz1 hz2 rfl (by decide) (.slice A7 l.length c7) l.length (l.map (Value.int .i64)) rfl ((hrow.alloc _).alloc _) (wr.heap.size + 2) (some ⟨wr.heap.size + 1, 0, none⟩) 1 1 [.int .i64 r.o] rfl (reads_two wr _ _ 3) (by simp [Value.oneCell']) (by unfold maxLen; omega) (by omega) (by have := hbw.size; simp; omega) ?_)
            intro A1 c1 w2 hr1 hg1 ho1
            go_wp2
            go_roundw
            case rel => exact ⟨k + 1, by omega, by go_num, .mk' (m := l.length + 1) hT3.out (by simp) (by simpa using hr1) (((hbw' _).alloc (by have := hbw.size; simp; omega) _).grown hg1 (by have := hbw.size; simp; omega) (fun k hk => (hrow.lt k hk).1))⟩
            case measure => simp [intOf]; omega
          have hT3 := Lib.hid (hT2.out.trans (if_neg k1))
          clear hT2
          by_cases k2 : r.k = 2
          · have hT4 := Lib.hid (hT3.out.trans (if_pos k2))
            clear hT3
            go_wp2_with fail
            refine (index_any A7 l.length c7 r.o l _ _ (RD.of_row (hrow.alloc _)) (by omega)).mono ?_
            rintro e w2 ⟨rfl, rfl⟩
            rcases idxI_cases l r.o with ⟨e1, e2⟩ | ⟨i, hil, e1, e2⟩
            · rw [e1]
              have hT5 := Lib.hid (hT4.out.trans e2)
              clear e1 e2 hT4
              go_wp2
              go_roundw
              case rel => exact ⟨k + 1, by omega, by go_num, .mk' hT5.out rfl (hrow.alloc _) (hbw' _)⟩
              case measure => simp [intOf]; omega
            · rw [e1]
              have hT5 := Lib.hid (hT4.out.trans e2)
              clear e1 e2 hT4
              obtain ⟨g, o, u, rfl, -, -, -⟩ := Reads.at_ hrow.reads hil
              have hgb := (hrow.lt g rfl).1
              go_wp2_with fail
              refine (delete_any g o l.length c7 i (l.map (Value.int .i64)) _ w.heap.size (hrow.alloc _) (int_oneCell l) hil ⟨hc1, by omega⟩).mono ?_
              rintro e w3 ⟨rfl, hr3, hf3⟩
              go_wp2
              go_roundw
              case rel => exact ⟨k + 1, by omega, by go_num, .mk' (m := l.length - 1) hT5.out (by rw [List.length_eraseIdx_of_lt hil]) (by rw [map_eraseIdx] at hr3; exact hr3) ((hbw' _).trans (hf3.below (by have := hbw.size; simp; omega) (fun k e => by omega)))⟩
              case measure => simp [intOf]; omega
          have hT4 := Lib.hid (hT3.out.trans (if_neg k2))
          clear hT3
          go_wp2
          go_roundw
          case rel => exact ⟨k + 1, by omega, by go_num, .mk' hT4.out rfl (hrow.alloc _) (hbw' _)⟩
          case measure => simp [intOf]; omega
        · have htt' : (r.t != t) = true := by simpa using htt
          have hT2 := Lib.hid (hT.out.trans (if_neg htt))
          clear hT htt
          go_wp2
          go_roundw
          case rel => exact ⟨k + 1, by omega, by go_num, .mk' hT2.out rfl (hrow.alloc _) (hbw' _)⟩
          case measure => simp [intOf]; omega
      · obtain rfl : k = n := by omega
        have HF2 : Hid (heldOf rs t = hd (rs.take k) t) := Lib.hid (HF.out.trans (by rw [List.take_of_length_le (by rw [HL.out]; omega)]))
        unfold maxLen at hc2
        clear HF
        generalize hd (rs.take k) t = l at *
        go_wp2_with fail
        refine (clone_any A7 l.length c7 l _ _ (RD.of_row hrow) (Nat.le_refl _) (by omega)).mono ?_
        rintro e w2 ⟨v2, rfl, hr2, hb2⟩
        obtain ⟨A2, c2, hv2, hc3, hc4⟩ := hr2.shape
        subst hv2
        go_wp2
        go_ret2
        exact ⟨_, _, _, by rw [HT.out]; rfl, by rw [HF2.out]; exact RD.of_row hr2, by omega, hbw.trans (hb2.mono hbw.size)⟩
  · have ht' : (traceErr rs != 0) = true := by simpa using ht
    have HF := Lib.hid (show heldOf rs t = [] from if_neg ht)
    go_enter Try.func26, Try.ntmps26
    go_wp2_with (go_at_call 41; refine (tchecked_any A n c rs _ B h hB hn).mono ?_; rintro e w1 ⟨rfl, hb1⟩)
    go_ret2
    exact ⟨_, _, _, rfl, by rw [HF.out]; exact ⟨rfl, fun h => absurd h (by omega)⟩, by omega, hb1⟩
end Go.Proofs.Ytjdbclcafjlohaa
