/- Contracts of trace.Encode and ringref4.TraceBytes. -/
import Derived.Test.YtjdbclcafjlohaaTrA
namespace Go.Proofs.Ytjdbclcafjlohaa
open Go.RowKit
set_option maxHeartbeats 400000
set_option linter.unusedVariables false
set_option linter.unusedSimpArgs false
def Rc.bytes (r : Rc) : List Int := [r.k * 4 + r.c, r.t, r.o]
def encB (rs : List Rc) : List Int := rs.flatMap Rc.bytes
theorem Rc.good {r : Rc} (h : r.err = 0) : 1 ≤ r.k ∧ r.k ≤ 9 ∧ 0 ≤ r.c ∧ r.c ≤ 3 ∧ 1 ≤ r.t ∧ r.t ≤ 16 ∧ 0 ≤ r.o ∧ r.o ≤ 63 := by
  unfold Rc.err at h
  split at h
  · cases h
  · split at h
    · cases h
    · omega
theorem Rc.byt {r : Rc} (h : r.err = 0) : Byt r.bytes := by
  have := Rc.good h
  intro y hy
  simp only [Rc.bytes, List.mem_cons, List.not_mem_nil, or_false] at hy
  omega
theorem encB_byt (rs : List Rc) (h : ∀ j, j < rs.length → (rs.getD j .zero).err = 0) : Byt (encB rs) := by
  intro y hy
  obtain ⟨r, hr, hy⟩ := List.mem_flatMap.1 hy
  obtain ⟨i, hi, rfl⟩ := List.getElem_of_mem hr
  exact Rc.byt (by have := h i hi; simpa [List.getD, List.getElem?_eq_getElem hi] using this) y hy
theorem encB_take (rs : List Rc) (k : Nat) (h : k < rs.length) : encB (rs.take (k + 1)) = encB (rs.take k) ++ (rs.getD k .zero).bytes := by
  unfold encB
  rw [List.take_succ_eq_append_getElem h, List.flatMap_append]
  simp [List.getD, List.getElem?_eq_getElem h]
theorem encB_len (rs : List Rc) : (encB rs).length = 3 * rs.length := by
  unfold encB
  induction rs with
  | nil => rfl
  | cons a rs ih => rw [List.flatMap_cons, List.length_append, ih]; simp [Rc.bytes]; omega
def EncPost (w : World) (rs : List Rc) (e : Ending) (w' : World) : Prop :=
  ∃ A m c, e = .returned (.tuple #[.slice A m c, .int .i64 (traceErr rs)]) ∧ RB w' w'.heap.size A m (if traceErr rs = 0 then encB rs else []) ∧ Below w.heap.size w w'
theorem EncPost.bad {w w' : World} {rs : List Rc} {x : Int} (hx : traceErr rs = x) (h0 : x ≠ 0) (hb : Below w.heap.size w w') : EncPost w rs (.returned (.tuple #[.slice none 0 0, .int .i64 x])) w' := by
  subst hx
  refine ⟨none, 0, 0, rfl, ?_, hb⟩
  rw [if_neg h0]
  exact ⟨Reads.none_, fun x hx => by simp at hx⟩
theorem EncPost.good {w w' : World} {rs : List Rc} {A : Option Addr} {m c : Nat} (hx : traceErr rs = 0) (hr : RB w' w'.heap.size A m (encB rs)) (hb : Below w.heap.size w w') : EncPost w rs (.returned (.tuple #[.slice A m c, .int .i64 0])) w' := by
  refine ⟨A, m, c, by rw [hx], ?_, hb⟩
  rw [if_pos hx]
  exact hr
theorem u8info : (Try.prog.info? 5).map (fun i => (i.zero, i.size, i.bytes)) = some (some (.int .u8 0), 1, 1) := by kernel_rfl
theorem or_i64 (k c : Int) (h : 0 ≤ k ∧ k ≤ 1000) (hc : 0 ≤ c ∧ c ≤ 3) : bits .or .i64 (k * 4) c = k * 4 + c :=
  bits_join .i64 62 (by decide) (fun n h0 h1 => by rw [IntKind.wrap_i64]; omega) 2 (k * 4) c (by omega) (by omega) (by omega) (by omega) (by omega) (by omega)
theorem box4 {w w1 : World} {c0 c1 c2 c3 : Value} {t : TypeId} (hb : Below (w.alloc (.cells #[c0, c1, c2, c3] t)).heap.size (w.alloc (.cells #[c0, c1, c2, c3] t)) w1) :
    w1.cell? ⟨w.heap.size, 0, none⟩ = some c0 ∧ w1.cell? ⟨w.heap.size, 1, none⟩ = some c1 ∧ w1.cell? ⟨w.heap.size, 2, none⟩ = some c2 ∧ w1.cell? ⟨w.heap.size, 3, none⟩ = some c3 := by
  refine ⟨?_, ?_, ?_, ?_⟩
  all_goals (rw [hb.cell (by simp)]; rw [cell_of_row _ _ _ _ t (0, 0) (heap_alloc_new w _)]; rfl)
/-- The loop of Encode. -/
def EncRel (w : World) (rs : List Rc) (k : Nat) (v : Value) (wr : World) : Prop :=
  (∀ j, j < k → (rs.getD j .zero).err = 0) ∧ wr.ownsRow w.heap.size 5 1 v (3 * k) ((encB (rs.take k)).map (Value.int .u8)) ∧ Below w.heap.size w wr
theorem own_keep {w w' : World} {base : Nat} {e : TypeId} {size n : Nat} {v : Value} {xs : List Value} (h : w.ownsRow base e size v n xs) (hg : Grow w w') : w'.ownsRow base e size v n xs := (ownSt base e size n xs).mono v w w' h hg
theorem EncRel.next {w wr w3 w4 : World} {rs : List Rc} {k : Nat} {v v4 : Value} (hk : k < rs.length) (hg : ∀ j, j < k → (rs.getD j .zero).err = 0) (he : (rs.getD k .zero).err = 0) (hb : Below w.heap.size w w3)
    (hv : wr.ownsRow w.heap.size 5 1 v (3 * k) ((encB (rs.take k)).map (Value.int .u8)))
    (ho : w4.ownsRow w.heap.size 5 1 v4 (3 * k + 3) ((encB (rs.take k)).map (Value.int .u8) ++ (rs.getD k .zero).bytes.map (Value.int .u8))) (hgr : w3.grownBy w4 v.ownBlock) : EncRel w rs (k + 1) v4 w4 := by
  refine ⟨fun j hj => ?_, ?_, hb.grown hgr hb.size fun g hgg => (hv.lt g hgg).1⟩
  · by_cases hjk : j < k
    · exact hg j hjk
    · obtain rfl : j = k := by omega
      exact he
  · rw [encB_take rs k hk, List.map_append]
    exact ho
set_option maxRecDepth 100000 in
theorem encode_any (A : Option Addr) (n c : Nat) (rs : List Rc) (w : World) (B : Nat) (h : RR w B A n rs) (hB : B ≤ w.heap.size) (hn : n ≤ 9223372036854775807) :
    Calls Try.prog 12 #[.slice A n c] w (EncPost w rs) := by
  have hl := h.2
  have HL := Lib.hid hl
  by_cases hbig : 400 < n
  · have ht : traceErr rs = 2 := by unfold traceErr; rw [if_pos (by omega)]
    have HT := Lib.hid ht
    clear hl ht
    go_enter Try.func12, Try.ntmps12
    go_wp2
    go_ret2
    exact .bad HT.out (by decide) (Below.refl _ _)
  · have ht : traceErr rs = errs rs := by unfold traceErr; rw [if_neg (by omega)]
    have HT := Lib.hid ht
    clear hl ht
    obtain ⟨i0, hi0, hz0, hz1, hz2⟩ := info_parts u8info
    go_enter Try.func12, Try.ntmps12
    go_wp2_with (refine wpList_make_own _ rfl (.const (.int .i64 0)) (.tmp 13) 25 rfl w.heap.size 5 i0 _ 1 Try.underlying25 hi0 hz0 hz1 .i64 .i64 _ (3 * n) rfl rfl (by omega) (by rw [hz2]; omega) (by simp only [maxLen]; omega) (Nat.le_refl _) ?_; intro w1 hown1 hgr1)
    have hrel0 : EncRel w rs 0 (.slice (some ⟨w.heap.size, 0, none⟩) 0 (3 * n)) w1 := ⟨fun j hj => by omega, hown1, (Below.refl _ _).grown hgr1 (Nat.le_refl _) (by simp)⟩
    clear hown1 hgr1
    go_loopw [4, 17] (fun v i wr => ∃ k : Nat, k ≤ n ∧ i = .int .i64 k ∧ EncRel w rs k v wr) (fun _ i _ => n - (intOf i).toNat)
    case atStart => exact ⟨0, by omega, rfl, hrel0⟩
    case round =>
      obtain ⟨k, hk, rfl, hgood, hown, hbw⟩ := hrel
      clear hrel0
      rename_i v _ _
      have HG := Lib.hid hgood
      clear hgood
      by_cases hlt : k < n
      · obtain ⟨b, o, rfl, hb, c0, c1, c2, c3⟩ := (h.below' hbw hB).at_ hlt
        have hET := Lib.hid (encB_take rs k (by rw [HL.out]; exact hlt))
        generalize hr : rs.getD k .zero = r at *
        have HR := Lib.hid hr
        clear hr
        by_cases he : r.err = 0
        · have hgd := Rc.good he
          have ho := or_i64 r.k r.c (by omega) (by omega)
          have hbr := Rc.byt he
          have hbb : Below w.heap.size w (wr.alloc (.cells #[.int .i64 r.k, .int .i64 r.c, .int .i64 r.t, .int .i64 r.o] 24)) := hbw.alloc hbw.size _
          go_wp2_with (first | (go_at_call 15; refine (check_any r _).mono ?_; rintro e w2 ⟨rfl, hb2⟩; obtain ⟨d0, d1, d2, d3⟩ := box4 hb2; have hb3 := hbb.trans (hb2.mono (by simp; exact Nat.le_succ_of_le hbw.size))) | (at_builtin; refine wpList_append_reads _ rfl (.tmp 26) (.tmp 40) _ rfl w.heap.size 5 i0 _ 1 1 Try.underlying25 hi0 hz0 hz1 hz2 rfl (by omega) _ (3 * k) _ rfl (own_keep (own_keep (own_keep hown (Grow.alloc _ _)) hb2) (Grow.alloc _ _)) _ (some ⟨w2.heap.size, 0, none⟩) 3 3 (r.bytes.map (Value.int .u8)) rfl (RB.new w2 5 r.bytes hbr).1 (u8_oneCell _) (by simp only [maxLen]; omega) (by omega) (by simp; exact Nat.le_succ_of_le hb3.size) ?_; intro v4 w4 hown4 hgr4 hob4))
          go_roundw
          case rel => exact ⟨k + 1, by omega, by go_num, EncRel.next (by rw [HL.out]; exact hlt) HG.out (by rw [HR.out]; exact he) (hb3.alloc hb3.size _) hown (by rw [HR.out]; exact hown4) hgr4⟩
          case measure => simp [intOf]; omega
        · have he' : (r.err != 0) = true := by simpa using he
          have hfin := Lib.hid (errs_take rs k HG.out (by rw [HL.out]; exact hlt) (by rw [HR.out]; exact he))
          clear hown
          go_wp2_with (go_at_call 15; refine (check_any r _).mono ?_; rintro e w2 ⟨rfl, hb2⟩)
          go_ret2
          exact .bad (by rw [HT.out, hfin.out, HR.out]) he ((hbw.alloc hbw.size _).trans (hb2.mono (by simp; exact Nat.le_succ_of_le hbw.size)))
      · have hfin := Lib.hid (errs_all rs (fun j hj => HG.out j (by rw [HL.out] at hj; omega)))
        have hbt := Lib.hid (encB_byt rs (fun j hj => HG.out j (by rw [HL.out] at hj; omega)))
        rw [List.take_of_length_le (by rw [HL.out]; omega)] at hown
        obtain ⟨A', c', rfl, -⟩ := own_shape hown
        go_wp2
        go_ret2
        exact .good (by rw [HT.out, hfin.out]) (RB.of_own hown hbt.out) hbw
end Go.Proofs.Ytjdbclcafjlohaa
