/- The law ringlaw4.ShellPlanned, walked. -/
import Derived.Test.YtjeclmkdojnflaaPlK
import Derived.Deep.Quiet
import Derived.Deep.QuietTactic
namespace Go.Proofs.Ytjeclmkdojnflaa
open Go.RowKit
set_option maxHeartbeats 400000
set_option linter.unusedVariables false
set_option linter.unusedSimpArgs false
theorem sameNil (w : World) : Calls Try.prog 23 #[.slice none 0 0, .slice none 0 0] w fun e w' => e = .returned (.bool true) ∧ w = w' := by
  have h : RB w 0 none 0 [] := ⟨Reads.none_, fun x hx => by simp at hx⟩
  have e1 := h.conv (P := Try.prog) 0 28 9 5 Try.underlying28 Try.underlying5 Try.underlying9
  go_enter Try.func23, Try.ntmps23
  go_wp2
  go_ret
  exact ⟨rfl, rfl⟩
set_option maxRecDepth 100000 in
theorem same_any (w : World) (num a b c : Int) (s : ByteArray) :
    Calls Try.prog 7 #[.agg #[.int .i64 num, .int .i64 a, .int .i64 b, .int .i64 c, .string s, .string ByteArray.empty, .slice none 0 0], .agg #[.int .i64 num, .int .i64 a, .int .i64 b, .int .i64 c, .string s, .string ByteArray.empty, .slice none 0 0]] w fun e w' => e = .returned (.bool true) ∧ Below w.heap.size w w' := by
  have hb : Below w.heap.size w ((w.alloc (.cells #[.int .i64 num, .int .i64 a, .int .i64 b, .int .i64 c, .string s, .string ByteArray.empty, .slice none 0 0] 30)).alloc (.cells #[.int .i64 num, .int .i64 a, .int .i64 b, .int .i64 c, .string s, .string ByteArray.empty, .slice none 0 0] 30)) := ((Below.refl _ _).alloc (Nat.le_refl _) _).alloc (by simp) _
  go_enter Try.func7, Try.ntmps7
  go_wp2_with (go_at_call 23; refine (sameNil _).mono ?_; rintro e w' ⟨rfl, rfl⟩)
  go_ret
  exact ⟨rfl, hb⟩
def goesB (b1 b2 b3 : Bool) : Bool := b1 || (b2 == b3)
set_option maxRecDepth 100000 in
theorem goes_any (w : World) (op : ByteArray) (st : Int) :
    Calls Try.prog 8 #[.agg #[.string op, .slice none 0 0], .int .i64 st] w fun e w' => e = .returned (.bool (goesB op.toList.isEmpty (op.toList == [38, 38]) (st == 0))) ∧ Below w.heap.size w w' := by
  have hb : Below w.heap.size w (w.alloc (.cells #[.string op, .slice none 0 0] 37)) := (Below.refl _ _).alloc (Nat.le_refl _) _
  go_enter Try.func8, Try.ntmps8
  generalize h1 : op.toList.isEmpty = b1
  generalize h2 : (op.toList == [38, 38]) = b2
  generalize h3 : (st == 0) = b3
  cases b1 <;> cases b2 <;> cases b3
  all_goals
    go_wp2
    go_ret
    exact ⟨rfl, hb⟩
theorem RP.more {w : World} {B B' n : Nat} {A : Option Addr} {rs : List Sp} (h : RP w B A n rs) (hB : B ≤ B') : RP w B' A n rs := ⟨h.1.more hB, fun r hr => ⟨(h.2 r hr).1.more hB, (h.2 r hr).2⟩⟩
theorem goF_len (N : Nat) : ∀ (ss : List Smp) (i : Nat) (bf : Int) (q : Pst), (goF N ss i bf q).2.length ≤ q.2.length + 18 * ss.length
  | [], i, bf, q => by simp [goF]
  | s :: t, i, bf, q => by
    rw [goF, List.length_cons]
    split
    · have h1 := goF_len N t (i + 1) (lst q.1) (cmdM (i + 1) s bf q)
      have h2 := cmdM_len (i + 1) s bf q
      omega
    · have h1 := goF_len N t (i + 1) (-1) (cmdE (i + 1) s bf q)
      have h2 := cmdE_len (i + 1) s bf q
      omega
theorem planL_len {N : Nat} {ss : List Smp} {os : List Int} (h : ss.length = N) (he : planErr N ss os = 0) : (planL N ss os).length ≤ 200 := by
  have h1 := goF_len N ss 0 (-1) (opened (fun _ => false) os, [])
  have h2 := (plan_ok he).2.1
  unfold planL
  rw [List.length_append, List.length_replicate]
  simp at h1
  omega
def Stp.zero : Stp := ⟨0, 0, 0, 0, 0, ByteArray.empty⟩
set_option maxHeartbeats 4000000 in
set_option maxRecDepth 100000 in
theorem law_shellPlanned (A : Option Addr) (n c : Nat) (rs : List Sp) (A1 : Option Addr) (n1 c1 : Nat) (os : List Int) (op : ByteArray) (st : Int) (w : World) (h : RP w w.heap.size A n rs) (ho : RI .i64 w w.heap.size A1 n1 os) (hn1 : n1 ≤ 140737488355328) :
    Calls Try.prog 3 #[.slice A n c, .slice A1 n1 c1, .string op, .int .i64 st] w fun e w' => e = .returned (.bool true) ∧ Below w.heap.size w w' := by
  have H1 := Lib.hid (plan_any A n c rs A1 n1 c1 os w h ho (by omega))
  have H2 := Lib.hid (fun w1 (hb : Below w.heap.size w w1) => ref_any A n c rs A1 n1 c1 os w1 ((h.below' hb (Nat.le_refl _)).more hb.size) ((ho.below' hb (Nat.le_refl _)).more hb.size) hn1)
  have hlen := h.len
  clear h ho
  go_enter Try.func3, Try.ntmps3
  go_wp2_with fail
  refine H1.out.mono ?_
  rintro e w1 ⟨hb1, A2, m2, c2, rfl, hr2⟩
  have H3 := Lib.hid (H2.out w1 hb1)
  have HR2 := Lib.hid hr2
  have HB1 := Lib.hid hb1
  clear H1 H2 hr2 hb1
  go_wp2_with fail
  refine H3.out.mono ?_
  rintro e w2 ⟨hb2, A3, m3, c3, rfl, hr3⟩
  have hr2 := HR2.out.below' hb2 (Nat.le_refl _)
  clear HR2 H3
  obtain ⟨l, hl⟩ : ∃ l, (if planErr n (rs.map Sp.s) os = 0 then planL n (rs.map Sp.s) os else []) = l := ⟨_, rfl⟩
  have hl2 : l.length ≤ 200 := by
    rw [← hl]
    split
    · rename_i he
      exact planL_len (by simpa using hlen) he
    · simp
  rw [hl] at hr2 hr3
  obtain rfl : m2 = m3 := hr2.2.symm.trans hr3.2
  have HR2 := Lib.hid hr2
  have HR3 := Lib.hid hr3
  have HB2 := Lib.hid hb2
  have hm2 : m2 = l.length := hr2.2.symm
  have HS := Lib.hid hb2.size
  have hm200 : m2 ≤ 200 := by omega
  clear hl hr2 hr3 hb2 hl2 hlen
  generalize planErr n (rs.map Sp.s) os = pe at *
  have hm0 : Below w2.heap.size w2 w2 := Below.refl _ _
  go_wp2_with fail
  go_loopw [39] (fun i wr => ∃ k : Nat, i = .int .i64 k ∧ k ≤ m2 ∧ Below w2.heap.size w2 wr) (fun i _ => m2 - (intOf i).toNat)
  case atStart => exact ⟨0, rfl, by omega, hm0⟩
  case round =>
    obtain ⟨k, rfl, hk, hbw⟩ := hrel
    clear hm0
    by_cases hlt : k < m2
    · have hkn : (k : Int) < m2 := by omega
      obtain ⟨b, o, rfl, hb, hm, hc⟩ := (HR2.out.below' hbw HS.out).at_ (cl := Stp.cells) (s := 8) (fun _ => rfl) Stp.zero hlt
      obtain ⟨b', o', rfl, hb', hm', hc'⟩ := (HR3.out.below' hbw (Nat.le_refl _)).at_ (cl := Stp.cells) (s := 8) (fun _ => rfl) Stp.zero hlt
      generalize l.getD k Stp.zero = t at *
      have x0 := hc 0 _ rfl
      have x1 := hc 1 _ rfl
      have x2 := hc 2 _ rfl
      have x3 := hc 3 _ rfl
      have x4 := hc 4 _ rfl
      have x5 := hc 5 _ rfl
      have x6 := hc 6 _ rfl
      have x7 := hc 7 _ rfl
      have z0 := hc' 0 _ rfl
      have z1 := hc' 1 _ rfl
      have z2 := hc' 2 _ rfl
      have z3 := hc' 3 _ rfl
      have z4 := hc' 4 _ rfl
      have z5 := hc' 5 _ rfl
      have z6 := hc' 6 _ rfl
      have z7 := hc' 7 _ rfl
      rw [Nat.add_zero] at x0 z0
      clear hc hc' hm hm'
      have hsz := hbw.size
      have hbk : b < wr.heap.size := by have := HS.out; omega
      have hbk' : b' < wr.heap.size := by omega
      go_wp2_with fail
      refine wp_region_near wr.heap.size (by kernel_rfl) (by kernel_rfl) ?_
      repeat (go_big_quiet_step (first | (go_at_call 7; exact Calls.near (Near.size _) (same_any _ _ _ _ _ _)) | fail))
      refine wpQuiet_nil ?_
      intro w3 hb3
      go_wp2
      go_roundw
      case rel => exact ⟨k + 1, by go_num, by omega, hbw.trans (hb3.mono hbw.size)⟩
      case measure => simp [intOf]; omega
    · obtain rfl : k = m2 := by omega
      have HBF : Hid (Below w.heap.size w wr) := Lib.hid ((HB1.out.trans (HB2.out.mono HB1.out.size)).trans (hbw.mono (Nat.le_trans HB1.out.size HS.out)))
      clear hbw
      obtain ⟨b1, h1⟩ : ∃ b, op.toList.isEmpty = b := ⟨_, rfl⟩
      obtain ⟨b2, h2⟩ : ∃ b, (op.toList == [38, 38]) = b := ⟨_, rfl⟩
      obtain ⟨b3, h3⟩ : ∃ b, (st == 0) = b := ⟨_, rfl⟩
      have HG := Lib.hid (fun w' => goes_any w' op st)
      rw [h1, h2, h3] at HG
      have h4 : (st != 0) = !b3 := by rw [← h3]; rfl
      cases b1 <;> cases b2 <;> cases b3
      all_goals
        go_wp2_with (go_at_call 8; refine (HG.out _).mono ?_; rintro e w4 ⟨rfl, hb4⟩)
        go_ret
        exact ⟨rfl, HBF.out.trans (hb4.mono HBF.out.size)⟩
end Go.Proofs.Ytjeclmkdojnflaa
