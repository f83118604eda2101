/- Records in memory; contracts of trace.Check, ringref4.RecFault, TraceFault, trace.Encode, trace.checked. -/
import Derived.Test.YtmfalafolpfhiaaRrB
import Derived.Test.YtmfalafolpfhiaaRrC
import Derived.Test.YtmfalafolpfhiaaFlow
import Derived.Test.YtmfalafolpfhiaaDel
import Derived.Laws.BitsAllLaws
import Derived.Laws.MakeOwn
import Derived.Deep.RegionLaw
namespace Go.Proofs.Ytmfalafolpfhiaa
open Go.RowKit
set_option maxHeartbeats 400000
set_option linter.unusedVariables false
set_option linter.unusedSimpArgs false
theorem ret_bool {a b : Bool} (h : a = b) : Ending.returned (.bool a) = .returned (.bool b) := by rw [h]
theorem ret_int {k : IntKind} {a b : Int} (h : a = b) : Ending.returned (.int k a) = .returned (.int k b) := by rw [h]
/-- A record. -/
structure Rc where
  k : Int
  c : Int
  t : Int
  o : Int
def I64 (x : Int) : Prop := -9223372036854775808 ≤ x ∧ x ≤ 9223372036854775807
def Rc.cells (r : Rc) : List Value := [.int .i64 r.k, .int .i64 r.c, .int .i64 r.t, .int .i64 r.o]
def Rc.zero : Rc := ⟨0, 0, 0, 0⟩
/-- P61.1. -/
def Rc.err (r : Rc) : Int := if r.k < 1 ∨ 9 < r.k then 3 else if r.c < 0 ∨ 4 ≤ r.c ∨ r.t < 1 ∨ 16 < r.t ∨ r.o < 0 ∨ 63 < r.o then 1 else 0
theorem flat_at (rs : List Rc) : ∀ (i j : Nat) (r : Rc), rs[i]? = some r → j < 4 → (rs.flatMap Rc.cells)[i * 4 + j]? = r.cells[j]? := by
  induction rs with
  | nil => intro i j r h; simp at h
  | cons a rs ih =>
    intro i j r h hj
    rw [List.flatMap_cons]
    cases i with
    | zero =>
      simp only [List.getElem?_cons_zero, Option.some.injEq] at h
      subst h
      rw [List.getElem?_append_left (by simp [Rc.cells]; omega)]
      simp
    | succ i =>
      simp only [List.getElem?_cons_succ] at h
      rw [List.getElem?_append_right (by simp [Rc.cells]; omega)]
      have := ih i j r h hj
      rw [← this]
      congr 1
      simp [Rc.cells]; omega
/-- A slice of records that reads as rs. -/
def RR (w : World) (B : Nat) (A : Option Addr) (n : Nat) (rs : List Rc) : Prop := Reads w B 4 A n (rs.flatMap Rc.cells) ∧ rs.length = n
theorem RR.below' {w w' : World} {B B' n : Nat} {A : Option Addr} {rs : List Rc} (h : RR w B A n rs) (hb : Below B' w w') (hB : B ≤ B') : RR w' B A n rs := ⟨h.1.below' hb hB, h.2⟩
theorem RR.more {w : World} {B B' n : Nat} {A : Option Addr} {rs : List Rc} (h : RR w B A n rs) (hB : B ≤ B') : RR w B' A n rs := ⟨h.1.more hB, h.2⟩
theorem RR.at_ {w : World} {B n i : Nat} {A : Option Addr} {rs : List Rc} (h : RR w B A n rs) (hi : i < n) : ∃ b o, A = some ⟨b, o, none⟩ ∧ b < B ∧ w.cell? ⟨b, o + i * 4, none⟩ = some (.int .i64 (rs.getD i .zero).k) ∧
    w.cell? ⟨b, o + i * 4 + 1, none⟩ = some (.int .i64 (rs.getD i .zero).c) ∧ w.cell? ⟨b, o + i * 4 + 2, none⟩ = some (.int .i64 (rs.getD i .zero).t) ∧ w.cell? ⟨b, o + i * 4 + 3, none⟩ = some (.int .i64 (rs.getD i .zero).o) := by
  obtain ⟨b, o, e, hb, hc⟩ := h.1.2 (by omega)
  have hl : i < rs.length := by rw [h.2]; exact hi
  have e1 : rs[i]? = some (rs.getD i .zero) := by simp [List.getD, List.getElem?_eq_getElem hl]
  refine ⟨b, o, e, hb, ?_, ?_, ?_, ?_⟩
  · exact hc (i * 4 + 0) _ ((flat_at rs i 0 _ e1 (by omega)).trans rfl)
  · rw [Nat.add_assoc]; exact hc (i * 4 + 1) _ ((flat_at rs i 1 _ e1 (by omega)).trans rfl)
  · rw [Nat.add_assoc]; exact hc (i * 4 + 2) _ ((flat_at rs i 2 _ e1 (by omega)).trans rfl)
  · rw [Nat.add_assoc]; exact hc (i * 4 + 3) _ ((flat_at rs i 3 _ e1 (by omega)).trans rfl)
theorem check_any (r : Rc) (w : World) : Calls Try.prog 37 #[.agg #[.int .i64 r.k, .int .i64 r.c, .int .i64 r.t, .int .i64 r.o]] w fun e w' => e = .returned (.int .i64 r.err) ∧ Below w.heap.size w w' := by
  obtain ⟨k, c, t, o⟩ := r
  go_enter Try.func37, Try.ntmps37
  go_wp2
  all_goals
    go_ret
    refine ⟨ret_int ?_, (Below.refl _ _).alloc (Nat.le_refl _) _⟩
    go_light
    unfold Rc.err
    dsimp only
    (repeat' split) <;> omega
theorem recFault_any (r : Rc) (w : World) : Calls Try.prog 35 #[.agg #[.int .i64 r.k, .int .i64 r.c, .int .i64 r.t, .int .i64 r.o]] w fun e w' => e = .returned (.int .i64 r.err) ∧ Below w.heap.size w w' := by
  obtain ⟨k, c, t, o⟩ := r
  go_enter Try.func35, Try.ntmps35
  go_wp2
  all_goals
    go_ret
    refine ⟨ret_int ?_, (Below.refl _ _).alloc (Nat.le_refl _) _⟩
    go_light
    unfold Rc.err
    dsimp only
    (repeat' split) <;> omega
def errs : List Rc → Int
  | [] => 0
  | r :: rs => if r.err = 0 then errs rs else r.err
def traceErr (rs : List Rc) : Int := if 400 < rs.length then 2 else errs rs
theorem errs_take (rs : List Rc) : ∀ (k : Nat), (∀ j, j < k → (rs.getD j .zero).err = 0) → k < rs.length → (rs.getD k .zero).err ≠ 0 → errs rs = (rs.getD k .zero).err := by
  induction rs with
  | nil => intro k _ h; simp at h
  | cons a rs ih =>
    intro k h0 hk hne
    cases k with
    | zero => simp only [List.getD_cons_zero] at hne ⊢; unfold errs; rw [if_neg hne]
    | succ k =>
      have ha := h0 0 (by omega)
      simp only [List.getD_cons_zero] at ha
      unfold errs
      rw [if_pos ha]
      exact ih k (fun j hj => by have := h0 (j + 1) (by omega); simpa using this) (by simpa using hk) (by simpa using hne)
theorem errs_all (rs : List Rc) (h : ∀ j, j < rs.length → (rs.getD j .zero).err = 0) : errs rs = 0 := by
  induction rs with
  | nil => rfl
  | cons a rs ih =>
    have ha := h 0 (by simp)
    simp only [List.getD_cons_zero] at ha
    unfold errs
    rw [if_pos ha]
    exact ih fun j hj => by have := h (j + 1) (by simpa using hj); simpa using this
theorem fault_any (A : Option Addr) (n c : Nat) (rs : List Rc) (w : World) (B : Nat) (h : RR w B A n rs) (hB : B ≤ w.heap.size) (hn : n ≤ 9223372036854775807) :
    Calls Try.prog 27 #[.slice A n c] w fun e w' => e = .returned (.int .i64 (traceErr rs)) ∧ Below w.heap.size w w' := by
  have hl := h.2
  have HL := Lib.hid hl
  by_cases hbig : 400 < n
  · have ht : traceErr rs = 2 := by unfold traceErr; rw [if_pos (by omega)]
    rw [ht]
    clear hl ht
    go_enter Try.func27, Try.ntmps27
    go_wp2
    go_ret
    exact ⟨rfl, Below.refl _ _⟩
  · have ht : traceErr rs = errs rs := by unfold traceErr; rw [if_neg (by omega)]
    rw [ht]
    clear hl ht
    go_enter Try.func27, Try.ntmps27
    go_wp2
    go_loopw [11] (fun i wr => ∃ k : Nat, k ≤ n ∧ i = .int .i64 k ∧ (∀ j, j < k → (rs.getD j .zero).err = 0) ∧ Below w.heap.size w wr) (fun i _ => n - (intOf i).toNat)
    case atStart => exact ⟨0, by omega, rfl, fun j hj => by omega, Below.refl _ _⟩
    case round =>
      obtain ⟨k, hk, rfl, hgood, hbw⟩ := hrel
      have HG := Lib.hid hgood
      clear hgood
      by_cases hlt : k < n
      · obtain ⟨b, o, rfl, hb, c0, c1, c2, c3⟩ := (h.below' hbw hB).at_ hlt
        generalize hr : rs.getD k .zero = r at *
        have HR := Lib.hid hr
        clear hr
        by_cases he : r.err = 0
        · go_wp2_with (go_at_call 35; refine (recFault_any r _).mono ?_; rintro e w1 ⟨rfl, hb1⟩)
          go_roundw
          case rel =>
            refine ⟨k + 1, by omega, by go_num, fun j hj => ?_, (hbw.alloc hbw.size _).trans (hb1.mono (by simp; exact Nat.le_succ_of_le hbw.size))⟩
            by_cases hjk : j < k
            · exact HG.out j hjk
            · obtain rfl : j = k := by omega
              rw [HR.out]; exact he
          case measure => simp [intOf]; omega
        · have he' : (r.err != 0) = true := by simpa using he
          have hfin := Lib.hid (errs_take rs k HG.out (by rw [HL.out]; exact hlt) (by rw [HR.out]; exact he))
          clear he
          go_wp2_with (go_at_call 35; refine (recFault_any r _).mono ?_; rintro e w1 ⟨rfl, hb1⟩)
          go_ret
          refine ⟨ret_int ?_, (hbw.alloc hbw.size _).trans (hb1.mono (by simp; exact Nat.le_succ_of_le hbw.size))⟩
          rw [hfin.out, HR.out]
      · have hfin := Lib.hid (errs_all rs (fun j hj => HG.out j (by rw [HL.out] at hj; omega)))
        go_wp2
        go_ret
        exact ⟨ret_int hfin.out.symm, hbw⟩
def Rc.bytes (r : Rc) : List Int := [r.k * 4 + r.c, r.t, r.o]
def encB (rs : List Rc) : List Int := rs.flatMap Rc.bytes
theorem Rc.good {r : Rc} (h : r.err = 0) : 1 ≤ r.k ∧ r.k ≤ 9 ∧ 0 ≤ r.c ∧ r.c ≤ 3 ∧ 1 ≤ r.t ∧ r.t ≤ 16 ∧ 0 ≤ r.o ∧ r.o ≤ 63 := by
  unfold Rc.err at h
  split at h
  · cases h
  · split at h
    · cases h
    · omega
theorem Rc.byt {r : Rc} (h : r.err = 0) : Byt r.bytes := by
  have := Rc.good h
  intro y hy
  simp only [Rc.bytes, List.mem_cons, List.not_mem_nil, or_false] at hy
  omega
theorem encB_byt (rs : List Rc) (h : ∀ j, j < rs.length → (rs.getD j .zero).err = 0) : Byt (encB rs) := by
  intro y hy
  obtain ⟨r, hr, hy⟩ := List.mem_flatMap.1 hy
  obtain ⟨i, hi, rfl⟩ := List.getElem_of_mem hr
  exact Rc.byt (by have := h i hi; simpa [List.getD, List.getElem?_eq_getElem hi] using this) y hy
theorem encB_take (rs : List Rc) (k : Nat) (h : k < rs.length) : encB (rs.take (k + 1)) = encB (rs.take k) ++ (rs.getD k .zero).bytes := by
  unfold encB
  rw [List.take_succ_eq_append_getElem h, List.flatMap_append]
  simp [List.getD, List.getElem?_eq_getElem h]
theorem encB_len (rs : List Rc) : (encB rs).length = 3 * rs.length := by
  unfold encB
  induction rs with
  | nil => rfl
  | cons a rs ih => rw [List.flatMap_cons, List.length_append, ih]; simp [Rc.bytes]; omega
def EncPost (w : World) (rs : List Rc) (e : Ending) (w' : World) : Prop :=
  ∃ A m c, e = .returned (.tuple #[.slice A m c, .int .i64 (traceErr rs)]) ∧ RB w' w'.heap.size A m (if traceErr rs = 0 then encB rs else []) ∧ Below w.heap.size w w'
theorem EncPost.bad {w w' : World} {rs : List Rc} {x : Int} (hx : traceErr rs = x) (h0 : x ≠ 0) (hb : Below w.heap.size w w') : EncPost w rs (.returned (.tuple #[.slice none 0 0, .int .i64 x])) w' := by
  subst hx
  refine ⟨none, 0, 0, rfl, ?_, hb⟩
  rw [if_neg h0]
  exact ⟨Reads.none_, fun x hx => by simp at hx⟩
theorem EncPost.good {w w' : World} {rs : List Rc} {A : Option Addr} {m c : Nat} (hx : traceErr rs = 0) (hr : RB w' w'.heap.size A m (encB rs)) (hb : Below w.heap.size w w') : EncPost w rs (.returned (.tuple #[.slice A m c, .int .i64 0])) w' := by
  refine ⟨A, m, c, by rw [hx], ?_, hb⟩
  rw [if_pos hx]
  exact hr
theorem u8info : (Try.prog.info? 5).map (fun i => (i.zero, i.size, i.bytes)) = some (some (.int .u8 0), 1, 1) := by kernel_rfl
theorem or_i64 (k c : Int) (h : 0 ≤ k ∧ k ≤ 1000) (hc : 0 ≤ c ∧ c ≤ 3) : bits .or .i64 (k * 4) c = k * 4 + c :=
  bits_join .i64 62 (by decide) (fun n h0 h1 => by rw [IntKind.wrap_i64]; omega) 2 (k * 4) c (by omega) (by omega) (by omega) (by omega) (by omega) (by omega)
theorem box4 {w w1 : World} {c0 c1 c2 c3 : Value} {t : TypeId} (hb : Below (w.alloc (.cells #[c0, c1, c2, c3] t)).heap.size (w.alloc (.cells #[c0, c1, c2, c3] t)) w1) :
    w1.cell? ⟨w.heap.size, 0, none⟩ = some c0 ∧ w1.cell? ⟨w.heap.size, 1, none⟩ = some c1 ∧ w1.cell? ⟨w.heap.size, 2, none⟩ = some c2 ∧ w1.cell? ⟨w.heap.size, 3, none⟩ = some c3 := by
  refine ⟨?_, ?_, ?_, ?_⟩
  all_goals (rw [hb.cell (by simp)]; rw [cell_of_row _ _ _ _ t (0, 0) (heap_alloc_new w _)]; rfl)
/-- The loop of Encode. -/
def EncRel (w : World) (rs : List Rc) (k : Nat) (v : Value) (wr : World) : Prop :=
  (∀ j, j < k → (rs.getD j .zero).err = 0) ∧ wr.ownsRow w.heap.size 5 1 v (3 * k) ((encB (rs.take k)).map (Value.int .u8)) ∧ Below w.heap.size w wr
theorem own_keep {w w' : World} {base : Nat} {e : TypeId} {size n : Nat} {v : Value} {xs : List Value} (h : w.ownsRow base e size v n xs) (hg : Grow w w') : w'.ownsRow base e size v n xs := (ownSt base e size n xs).mono v w w' h hg
theorem EncRel.next {w wr w3 w4 : World} {rs : List Rc} {k : Nat} {v v4 : Value} (hk : k < rs.length) (hg : ∀ j, j < k → (rs.getD j .zero).err = 0) (he : (rs.getD k .zero).err = 0) (hb : Below w.heap.size w w3)
    (hv : wr.ownsRow w.heap.size 5 1 v (3 * k) ((encB (rs.take k)).map (Value.int .u8)))
    (ho : w4.ownsRow w.heap.size 5 1 v4 (3 * k + 3) ((encB (rs.take k)).map (Value.int .u8) ++ (rs.getD k .zero).bytes.map (Value.int .u8))) (hgr : w3.grownBy w4 v.ownBlock) : EncRel w rs (k + 1) v4 w4 := by
  refine ⟨fun j hj => ?_, ?_, hb.grown hgr hb.size fun g hgg => (hv.lt g hgg).1⟩
  · by_cases hjk : j < k
    · exact hg j hjk
    · obtain rfl : j = k := by omega
      exact he
  · rw [encB_take rs k hk, List.map_append]
    exact ho
set_option maxRecDepth 100000 in
theorem encode_any (A : Option Addr) (n c : Nat) (rs : List Rc) (w : World) (B : Nat) (h : RR w B A n rs) (hB : B ≤ w.heap.size) (hn : n ≤ 9223372036854775807) :
    Calls Try.prog 31 #[.slice A n c] w (EncPost w rs) := by
  have hl := h.2
  have HL := Lib.hid hl
  by_cases hbig : 400 < n
  · have ht : traceErr rs = 2 := by unfold traceErr; rw [if_pos (by omega)]
    have HT := Lib.hid ht
    clear hl ht
    go_enter Try.func31, Try.ntmps31
    go_wp2
    go_ret2
    exact .bad HT.out (by decide) (Below.refl _ _)
  · have ht : traceErr rs = errs rs := by unfold traceErr; rw [if_neg (by omega)]
    have HT := Lib.hid ht
    clear hl ht
    obtain ⟨i0, hi0, hz0, hz1, hz2⟩ := info_parts u8info
    go_enter Try.func31, Try.ntmps31
    go_wp2_with (refine wpList_make_own _ rfl (.const (.int .i64 0)) (.tmp 13) 60 rfl w.heap.size 5 i0 _ 1 Try.underlying60 hi0 hz0 hz1 .i64 .i64 _ (3 * n) rfl rfl (by omega) (by rw [hz2]; omega) (by simp only [maxLen]; omega) (Nat.le_refl _) ?_; intro w1 hown1 hgr1)
    have hrel0 : EncRel w rs 0 (.slice (some ⟨w.heap.size, 0, none⟩) 0 (3 * n)) w1 := ⟨fun j hj => by omega, hown1, (Below.refl _ _).grown hgr1 (Nat.le_refl _) (by simp)⟩
    clear hown1 hgr1
    go_loopw [4, 17] (fun v i wr => ∃ k : Nat, k ≤ n ∧ i = .int .i64 k ∧ EncRel w rs k v wr) (fun _ i _ => n - (intOf i).toNat)
    case atStart => exact ⟨0, by omega, rfl, hrel0⟩
    case round =>
      obtain ⟨k, hk, rfl, hgood, hown, hbw⟩ := hrel
      clear hrel0
      rename_i v _ _
      have HG := Lib.hid hgood
      clear hgood
      by_cases hlt : k < n
      · obtain ⟨b, o, rfl, hb, c0, c1, c2, c3⟩ := (h.below' hbw hB).at_ hlt
        have hET := Lib.hid (encB_take rs k (by rw [HL.out]; exact hlt))
        generalize hr : rs.getD k .zero = r at *
        have HR := Lib.hid hr
        clear hr
        by_cases he : r.err = 0
        · have hgd := Rc.good he
          have ho := or_i64 r.k r.c (by omega) (by omega)
          have hbr := Rc.byt he
          have hbb : Below w.heap.size w (wr.alloc (.cells #[.int .i64 r.k, .int .i64 r.c, .int .i64 r.t, .int .i64 r.o] 51)) := hbw.alloc hbw.size _
          go_wp2_with (first | (go_at_call 37; refine (check_any r _).mono ?_; rintro e w2 ⟨rfl, hb2⟩; obtain ⟨d0, d1, d2, d3⟩ := box4 hb2; have hb3 := hbb.trans (hb2.mono (by simp; exact Nat.le_succ_of_le hbw.size))) | (at_builtin; refine wpList_append_reads _ rfl (.tmp 26) (.tmp 40) _ rfl w.heap.size 5 i0 _ 1 1 Try.underlying60 hi0 hz0 hz1 hz2 rfl (by omega) _ (3 * k) _ rfl (own_keep (own_keep (own_keep hown (Grow.alloc _ _)) hb2) (Grow.alloc _ _)) _ (some ⟨w2.heap.size, 0, none⟩) 3 3 (r.bytes.map (Value.int .u8)) rfl (RB.new w2 5 r.bytes hbr).1 (u8_oneCell _) (by simp only [maxLen]; omega) (by omega) (by simp; exact Nat.le_succ_of_le hb3.size) ?_; intro v4 w4 hown4 hgr4 hob4))
          go_roundw
          case rel => exact ⟨k + 1, by omega, by go_num, EncRel.next (by rw [HL.out]; exact hlt) HG.out (by rw [HR.out]; exact he) (hb3.alloc hb3.size _) hown (by rw [HR.out]; exact hown4) hgr4⟩
          case measure => simp [intOf]; omega
        · have he' : (r.err != 0) = true := by simpa using he
          have hfin := Lib.hid (errs_take rs k HG.out (by rw [HL.out]; exact hlt) (by rw [HR.out]; exact he))
          clear hown
          go_wp2_with (go_at_call 37; refine (check_any r _).mono ?_; rintro e w2 ⟨rfl, hb2⟩)
          go_ret2
          exact .bad (by rw [HT.out, hfin.out, HR.out]) he ((hbw.alloc hbw.size _).trans (hb2.mono (by simp; exact Nat.le_succ_of_le hbw.size)))
      · have hfin := Lib.hid (errs_all rs (fun j hj => HG.out j (by rw [HL.out] at hj; omega)))
        have hbt := Lib.hid (encB_byt rs (fun j hj => HG.out j (by rw [HL.out] at hj; omega)))
        rw [List.take_of_length_le (by rw [HL.out]; omega)] at hown
        obtain ⟨A', c', rfl, -⟩ := own_shape hown
        go_wp2
        go_ret2
        exact .good (by rw [HT.out, hfin.out]) (RB.of_own hown hbt.out) hbw
theorem tchecked_any (A : Option Addr) (n c : Nat) (rs : List Rc) (w : World) (B : Nat) (h : RR w B A n rs) (hB : B ≤ w.heap.size) (hn : n ≤ 9223372036854775807) :
    Calls Try.prog 18 #[.slice A n c] w fun e w' => e = .returned (.int .i64 (traceErr rs)) ∧ Below w.heap.size w w' := by
  go_enter Try.func18, Try.ntmps18
  go_wp2_with fail
  refine (encode_any A n c rs _ B h hB hn).mono ?_
  rintro e w1 ⟨A1, m1, c1, rfl, hr1, hb1⟩
  clear hr1
  go_wp2
  go_ret
  exact ⟨rfl, hb1⟩
end Go.Proofs.Ytmfalafolpfhiaa
