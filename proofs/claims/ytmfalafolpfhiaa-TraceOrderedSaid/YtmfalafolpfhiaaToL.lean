/- The law ringlaw4.TraceOrdered, from a contract of trace.Order. -/
import Derived.Test.YtmfalafolpfhiaaToC
namespace Go.Proofs.Ytmfalafolpfhiaa
open Go.RowKit Go.Maps
set_option maxHeartbeats 400000
set_option linter.unusedVariables false
set_option linter.unusedSimpArgs false
theorem re_row {w : World} {B n c : Nat} {A : Option Addr} {es : List (Int × Int)} (h : Row w B 37 2 (.slice A n c) n (es.flatMap edgeCl)) (hl : es.length = n) : RE w w.heap.size A n es := ⟨h.reads, hl⟩
/-- What a contract of trace.Order says. -/
def OrdAny : Prop := ∀ (A : Option Addr) (n c : Nat) (rs : List Rc) (w : World) (B : Nat), RR w B A n rs → B ≤ w.heap.size → n ≤ 9223372036854775807 → Calls Try.prog 11 #[.slice A n c] w (OrdPost rs w)
theorem ordL_len (rs : List Rc) : (ordL rs).length ≤ 4096 := by
  unfold ordL
  split
  · exact lexTo_len _ 64
  · simp
set_option maxHeartbeats 2000000 in
set_option maxRecDepth 100000 in
theorem law_traceOrdered (hO : OrdAny) (A : Option Addr) (n c : Nat) (rs : List Rc) (w : World) (h : RR w w.heap.size A n rs) (hn : n ≤ 9223372036854775807) :
    Calls Try.prog 5 #[.slice A n c] w fun e w' => e = .returned (.bool true) ∧ Below w.heap.size w w' := by
  have HO := Lib.hid (hO A n c rs w w.heap.size h (Nat.le_refl _) hn)
  have hol := ordL_len rs
  go_enter Try.func5, Try.ntmps5
  go_wp2_with fail
  refine HO.out.mono ?_
  rintro e w1 ⟨v1, rfl, hr1, hb1⟩
  have hz1 := hb1.size
  have HF := Lib.hid (traceOrder_any A n c rs w1 w.heap.size (h.below' hb1 (Nat.le_refl _)) hz1 hn)
  go_wp2_with fail
  refine HF.out.mono ?_
  rintro e w2 ⟨v2, rfl, hr2, hb2⟩
  obtain ⟨A1, c1, rfl, -, -⟩ := hr1.shape
  obtain ⟨A2, c2, rfl, -, -⟩ := hr2.shape
  have hq1 := re_row (hr1.grow hb2) rfl
  have hq2 := re_row hr2 rfl
  have HBW := Lib.hid (hb1.trans (hb2.mono hz1))
  clear hr1 hr2 hb1 hb2 HF HO
  generalize traceErr rs = re at *
  generalize ordL rs = es at *
  obtain ⟨M, hM⟩ : ∃ M, M = es.length := ⟨_, rfl⟩
  rw [← hM] at hq1 hq2 hol ⊢
  clear hM
  go_wp2
  go_loopw [30] (fun i wr => ∃ k : Nat, k ≤ M ∧ i = .int .i64 k ∧ Below w2.heap.size w2 wr) (fun i _ => M - (intOf i).toNat)
  case atStart => exact ⟨0, by omega, rfl, Below.refl _ _⟩
  case round =>
    obtain ⟨k, hk, rfl, hbw⟩ := hrel
    by_cases hlt : k < M
    · obtain ⟨b, o, rfl, hb, c0, c1⟩ := RE.at_ (RS.below' hq1 hbw (Nat.le_refl _)) hlt
      obtain ⟨b', o', rfl, hb', d0, d1⟩ := RE.at_ (RS.below' hq2 hbw (Nat.le_refl _)) hlt
      generalize es.getD k (0, 0) = p at *
      have hb1 : b < wr.heap.size := Nat.lt_of_lt_of_le hb hbw.size
      have hb2 : b' < wr.heap.size := Nat.lt_of_lt_of_le hb' hbw.size
      have hkn : (k : Int) < M := by omega
      go_wp2_with fail
      refine wp_region_near wr.heap.size (by kernel_rfl) (by kernel_rfl) ?_
      repeat (go_big_quiet_step (fail))
      refine wpQuiet_nil ?_
      intro w3 hb3
      go_wp2
      go_roundw
      case rel => exact ⟨k + 1, by omega, by go_num, hbw.trans (hb3.mono hbw.size)⟩
      case measure => simp [intOf]; omega
    · go_wp2
      go_ret
      exact ⟨rfl, HBW.out.trans (hbw.mono HBW.out.size)⟩
/-! slices.Clone at edges -/
theorem edge_oneCell (es : List (Int × Int)) : ∀ u ∈ es.flatMap edgeCl, u.oneCell' = true := by
  intro u hu
  obtain ⟨x, _, hx⟩ := List.mem_flatMap.1 hu
  simp [edgeCl] at hx
  rcases hx with rfl | rfl <;> rfl
set_option maxRecDepth 100000 in
theorem clone25_any (A : Option Addr) (n c : Nat) (es : List (Int × Int)) (w : World) (B : Nat) (h : RE w B A n es) (hB : B ≤ w.heap.size) (hn : n ≤ 1000000) :
    Calls Try.prog 25 #[.slice A n c] w fun e w' => ∃ v, e = .returned v ∧ Row w' w.heap.size 37 2 v n (es.flatMap edgeCl) ∧ Below w.heap.size w w' := by
  have HL := Lib.hid h.2
  obtain ⟨i0, hi, hz0, hz1, hz2⟩ := info_parts Try.infoE
  have hnl := fun (w : World) (a : Option Addr) (n c n' c' : Nat) => sl_eql_nil (P := Try.prog) w 22 37 a n c n' c' Try.underlying22
  rcases A with _ | ⟨b, o, sp⟩
  · have h0 : n = 0 := by
      rcases Nat.eq_zero_or_pos n with h0 | h0
      · exact h0
      · obtain ⟨_, _, e, _⟩ := h.1.2 h0; cases e
    subst h0
    have hx : es = [] := List.eq_nil_of_length_eq_zero HL.out
    subst hx
    go_enter Try.func25, Try.ntmps25
    go_wp2
    go_ret
    exact ⟨_, rfl, Row.nil _ _ _ _, Below.refl _ _⟩
  · go_enter Try.func25, Try.ntmps25
    go_wp2_with (at_builtin; refine wpList_append_row _ rfl (.tmp 5) (.tmp 6) 22 rfl w.heap.size 37 i0 (.agg #[.int .i64 0, .int .i64 0]) 2 16 Try.underlying22 hi hz0 hz1 hz2 rfl (by decide) (.slice (some ⟨w.heap.size, 0, none⟩) 0 0) 0 [] rfl ?c1 B (some ⟨b, o, sp⟩) n c (es.flatMap edgeCl) rfl ?c2 (edge_oneCell es) ?c3 ?c4 ?c5 ?_; rotate_left; skip)
    case c1 => exact ⟨rfl, .inr ⟨w.heap.size, 0, 0, #[], rfl, Nat.le_refl _, Blk.new w #[] 37, Nat.le_refl _, by simp, by simp, fun j u hu => by simp at hu⟩⟩
    case c2 => exact Reads.alloc h.1 hB _
    case c3 => unfold maxLen; omega
    case c4 => omega
    case c5 => simp
    intro A' c' w1 hr hg _
    go_wp2
    go_ret
    exact ⟨_, rfl, by simpa using hr, ((Below.refl _ _).alloc (Nat.le_refl _) _).grown hg (by simp) (fun k hk => by simp [Value.ownBlock] at hk; omega)⟩
end Go.Proofs.Ytmfalafolpfhiaa
