/- ringref4.WordSplit (printed by mkWdQ.py). -/
import Derived.Test.YtdhepkljidpigaaWdP
namespace Go.Proofs.Ytdhepkljidpigaa
open Go.RowKit
set_option maxHeartbeats 400000
set_option linter.unusedVariables false
set_option linter.unusedSimpArgs false
/-- What stands at the head of WordSplit's second loop. -/
structure RM (w : World) (B : Nat) (s : ByteArray) (R : SRes) (A : Option Addr) (n c : Nat) (ms : List Tm) (j : Nat) (wr : World) : Prop where
  ts : TS wr B A n c ms
  fr : FrB B w wr
  base : B ≤ wr.heap.size
  res : Hid (R = sp s j (ms.map Tm.tk))
  le : j ≤ s.size
  len : n ≤ j
theorem rm_app {w : World} {B : Nat} {s : ByteArray} {R : SRes} {A : Option Addr} {n c : Nat} {ms : List Tm} {j' : Nat} {wr w' : World} {m : Tm} {A' : Option Addr} {c' : Nat} {o : Obj}
    (hts : TS wr B A n c ms) (hfr : FrB B w wr) (hbase : B ≤ wr.heap.size) (hm : PR wr B (.slice m.A m.n m.c) m.n m.ps) (hr : Row w' B 36 3 (.slice A' (n + 1) c') (n + 1) (ms.flatMap Tm.cells ++ m.cells)) (hg : (wr.alloc o).grownBy w' (Value.slice A n c).ownBlock)
    (hR : Hid (R = sp s j' ((ms ++ [m]).map Tm.tk))) (hj : j' ≤ s.size) (hn : n + 1 ≤ j') : RM w B s R A' (n + 1) c' (ms ++ [m]) j' w' := by
  have hf : FrB B wr w' := (FrB.of_below ((Below.refl wr.heap.size wr).alloc (Nat.le_refl _) o) hbase).trans ((Fr.of_grown hg).mono fun k hk hs => ((hts.row.alloc o).lt k hs).1)
  exact ⟨hts.app hm hr hg, hfr.trans hf, Nat.le_trans hbase hf.size, hR, hj, hn⟩
theorem stp_op {s : ByteArray} {st st' : WSt} (h : stp s st = .inr st') (hop : ∀ b0, st.op = some b0 → b0 ≤ s.size) : ∀ b0, st'.op = some b0 → b0 ≤ s.size := by
  obtain ⟨k, op, ps⟩ := st
  have g := (stp_grow h).1
  dsimp only at g hop
  unfold stp at h
  dsimp only at h
  rw [if_neg (by omega)] at h
  cases op with
  | some b =>
    have hb := hop b rfl
    dsimp only at h
    repeat' split at h
    all_goals (injection h with h; subst h; intro b0 e; first | (have e' := Option.some.inj e; omega) | cases e)
  | none =>
    dsimp only at h
    repeat' split at h
    all_goals first | (injection h with h; subst h; intro b0 e; first | (have e' := Option.some.inj e; omega) | cases e) | cases h
theorem stp_err {s : ByteArray} {st : WSt} {b : Nat} (h : stp s st = .inl (.error b)) (hk : st.k ≤ s.size) (hop : ∀ b0, st.op = some b0 → b0 ≤ s.size) : b ≤ s.size := by
  obtain ⟨k, op, ps⟩ := st
  dsimp only at hk hop
  unfold stp at h
  dsimp only at h
  cases op with
  | some b1 =>
    have hb := hop b1 rfl
    dsimp only at h
    repeat' split at h
    all_goals first | (injection h with h; injection h with h; omega) | cases h
  | none =>
    dsimp only at h
    repeat' split at h
    all_goals first | (injection h with h; injection h with h; omega) | (injection h with h; cases h) | cases h
theorem wd_err (s : ByteArray) : ∀ (d : Nat) (st : WSt) (b : Nat), s.size - st.k ≤ d → st.k ≤ s.size → (∀ b0, st.op = some b0 → b0 ≤ s.size) → wd s st = .error b → b ≤ s.size := by
  intro d
  induction d with
  | zero =>
    intro st b hd hk hop h
    cases e : stp s st with
    | inl r => rw [wd_inl e] at h; subst h; exact stp_err e hk hop
    | inr st' => have := stp_grow e; omega
  | succ d ih =>
    intro st b hd hk hop h
    cases e : stp s st with
    | inl r => rw [wd_inl e] at h; subst h; exact stp_err e hk hop
    | inr st' =>
      have g := stp_grow e
      rw [wd_inr e g.1 g.2.1] at h
      exact ih st' b (by omega) g.2.2 (stp_op e hop) h
theorem frB_below {w w' : World} (h : FrB w.heap.size w w') : Below w.heap.size w w' := h.below (Nat.le_refl _) (fun _ h => h)
set_option maxHeartbeats 4000000 in
set_option maxRecDepth 100000 in
theorem wordSplit_any (s : ByteArray) (w : World) : Calls Try.prog 5 #[.string s] w (SPost w.heap.size (splitS s) w) := by
  obtain ⟨i0, hi, hz0, hz1, hz2⟩ := info_parts infoTm
  have HR : Hid (splitS s = if 200 < s.size then ([], 0, 2) else if 0 ≤ fb s then ([], fb s, 22) else sp s 0 []) := Lib.hid rfl
  obtain ⟨R, hR⟩ : ∃ R, splitS s = R := ⟨_, rfl⟩
  rw [hR] at HR ⊢
  clear hR
  obtain ⟨B, hB⟩ : ∃ B, w.heap.size = B := ⟨_, rfl⟩
  rw [hB]
  have hBw : B ≤ w.heap.size := by omega
  clear hB
  by_cases hs : 200 < s.size
  · have e := HR.out
    rw [if_pos hs] at e
    have E := Lib.hid e
    clear e
    have hsi : (200 : Int) < s.size := by omega
    go_enter Try.func5, Try.ntmps5
    go_wp2
    refine bodyPost_ret (v := .tuple #[.slice none 0 0, .int .i64 0, .int .i64 2]) (by simp [results, Try.results5, go_sem]) rfl ?_
    exact ⟨none, 0, 0, [], 0, 2, rfl, TS.nil _ _, E.out, FrB.refl _ _⟩
  have hsi : ¬ (200 : Int) < s.size := by omega
  have HRR := HR.out
  rw [if_neg hs] at HRR
  have HR2 := Lib.hid HRR
  clear HR HRR
  go_enter Try.func5, Try.ntmps5
  go_wp2_with fail
  go_loopw [5] (fun v5 wr => ∃ k : Nat, k ≤ s.size ∧ v5 = .int .i64 k ∧ wr = w ∧ Hid (fb s = fbI k ((nums s).drop k))) (fun v5 _ => s.size - (intOf v5).toNat)
  case atStart => exact ⟨0, Nat.zero_le _, rfl, rfl, Lib.hid rfl⟩
  case round =>
    obtain ⟨k, hk, rfl, hwr, hf⟩ := hrel
    have hwr' := hwr.symm
    clear hwr
    subst hwr'
    by_cases hlt : k < s.size
    · have hki : (k : Int) < s.size := by omega
      have hst := hf.out.trans (fbI_step (xs := nums s) (k := k) (by rw [nums_len]; exact hlt))
      have e0 : (nums s).getD k 0 = bt s k := rfl
      rw [e0] at hst
      have hb0 := bt_at s k hlt
      obtain ⟨cc, hcc⟩ : ∃ cc, bt s k = cc := ⟨_, rfl⟩
      rw [hcc] at hb0 hst
      have HST := Lib.hid hst
      clear hst hcc e0
      by_cases hb : chB cc = true
      · have e := HR2.out
        have h1 := HST.out
        rw [if_pos hb] at h1
        rw [h1, if_pos (show (0 : Int) ≤ k by omega)] at e
        have E := Lib.hid e
        clear e h1
        by_cases h32 : cc < 32
        · have q1 : decide ((cc : Int) < 32) = true := by simp; omega
          go_wp2
          refine bodyPost_ret (v := .tuple #[.slice none 0 0, .int .i64 k, .int .i64 22]) (by simp [results, Try.results5, go_sem]) rfl ?_
          exact ⟨none, 0, 0, [], k, 22, rfl, TS.nil _ _, E.out, FrB.refl _ _⟩
        · have q1 : decide ((cc : Int) < 32) = false := by simp; omega
          have q2 : decide ((126 : Int) < cc) = true := by simp [chB] at hb; simp; omega
          go_wp2
          refine bodyPost_ret (v := .tuple #[.slice none 0 0, .int .i64 k, .int .i64 22]) (by simp [results, Try.results5, go_sem]) rfl ?_
          exact ⟨none, 0, 0, [], k, 22, rfl, TS.nil _ _, E.out, FrB.refl _ _⟩
      · have h1 := HST.out
        rw [if_neg hb] at h1
        have H1 := Lib.hid h1
        clear h1
        have q1 : decide ((cc : Int) < 32) = false := by simp [chB] at hb; simp; omega
        have q2 : decide ((126 : Int) < cc) = false := by simp [chB] at hb; simp; omega
        clear hb
        go_wp2
        go_roundw
        case rel => exact ⟨k + 1, by omega, by go_num, by first | rfl | trivial, H1⟩
        case measure => simp [intOf]; omega
    obtain rfl : k = s.size := by omega
    have e := HR2.out
    rw [hf.out, fbI_end _ _ (by rw [nums_len]; exact Nat.le_refl _), if_neg (show ¬ (0 : Int) ≤ -1 by omega)] at e
    have HM : Hid (RM w B s R none 0 0 [] 0 w) := Lib.hid ⟨TS.nil _ _, FrB.refl _ _, hBw, Lib.hid e, Nat.zero_le _, Nat.le_refl _⟩
    clear e HR2 hf
    go_wp2_with fail
    go_loopw [6, 7] (fun v6 v7 wr => ∃ A n c ms j, v6 = .slice A n c ∧ v7 = .int .i64 (j : Nat) ∧ RM w B s R A n c ms j wr) (fun _ v7 _ => s.size - (intOf v7).toNat)
    case atStart => exact ⟨none, 0, 0, [], 0, rfl, rfl, HM.out⟩
    case round =>
      clear HM
      obtain ⟨A, n, c, ms, j, rfl, rfl, hm⟩ := hrel
      have hle := hm.le
      have hbs := hm.base
      by_cases hlt : j < s.size
      rotate_left
      · obtain rfl : j = s.size := by omega
        have hst := Lib.hid (hm.res.out.trans (sp_end (Nat.le_refl _)))
        go_wp2
        refine bodyPost_ret (v := .tuple #[.slice A n c, .int .i64 0, .int .i64 0]) (by simp [results, Try.results5, go_sem]) rfl ?_
        exact ⟨A, n, c, ms, 0, 0, rfl, hm.ts, hst.out, hm.fr⟩
      have hq1 : (j : Int) < s.size := by omega
      have hq2 : (j : Int) ≤ s.size := by omega
      have hb0 := bt_at s j hlt
      obtain ⟨cc, hcc⟩ : ∃ cc, bt s j = cc := ⟨_, rfl⟩
      rw [hcc] at hb0
      have HC := Lib.hid hcc
      clear hcc
      obtain ⟨O, hO⟩ : ∃ O, opS (s.extract j s.size) = O := ⟨_, rfl⟩
      have HOO := Lib.hid hO
      have HOC := Lib.hid (fun W => signAt_any (s.extract j s.size) W (by simp; omega))
      have hOl := opS_le s j hle
      rw [hO] at HOC hOl
      clear hO
      unfold Says at HOC
      go_wp2_with fail
      refine (HOC.out wr).mono ?_
      rintro e w2 ⟨rfl, rfl⟩
      by_cases d32 : cc = 32
      · subst d32
        have hx : RM w B s R A n c ms (j + 1) w2 := ⟨hm.ts, hm.fr, hm.base, Lib.hid (hm.res.out.trans (sp_blank hlt HC.out)), by omega, by have := hm.len; omega⟩
        go_wp2
        go_roundw
        case rel => exact ⟨A, n, c, ms, j + 1, rfl, by go_num, hx⟩
        case measure => simp [intOf]; omega
      have q32 : ((cc : Int) == 32) = false := by simp; omega
      by_cases d35 : cc = 35
      · subst d35
        have hst := Lib.hid (hm.res.out.trans (sp_hash hlt HC.out))
        go_wp2
        refine bodyPost_ret (v := .tuple #[.slice A n c, .int .i64 0, .int .i64 0]) (by simp [results, Try.results5, go_sem]) rfl ?_
        exact ⟨A, n, c, ms, 0, 0, rfl, hm.ts, hst.out, hm.fr⟩
      have q35 : ((cc : Int) == 35) = false := by simp; omega
      have hrow := hm.ts.row
      have hn2 : n ≤ 200 := by have := hm.len; omega
      by_cases dO : O.size = 0
      rotate_left
      · have hst := Lib.hid (hm.res.out.trans (sp_sign (ts := ms.map Tm.tk) hlt (by rw [HC.out]; exact d32) (by rw [HC.out]; exact d35) HOO.out dO))
        have hOe := bytes_some dO
        go_wp2_with (at_builtin; refine wpList_append_row _ rfl (.tmp 78) (.tmp 82) 22 rfl B 36 i0 (.agg #[.string ⟨#[]⟩, .slice none 0 0, .int .i64 0]) 3 48 Try.underlying22 hi hz0 hz1 hz2 rfl (by decide) (.slice A n c) n (ms.flatMap Tm.cells) rfl (hrow.alloc _) (w2.heap.size + 1) (some ⟨w2.heap.size, 0, none⟩) 1 1 (Tm.cells ⟨O, none, 0, 0, [], j⟩) rfl (reads_cells w2 (Tm.cells ⟨O, none, 0, 0, [], j⟩) 36 rfl) (tm_oneCell _) (by unfold maxLen; omega) (by omega) (by simp; omega) ?_)
        intro A2 c2 w3 hr3 hg3 ho3
        have hx := rm_app (m := ⟨O, none, 0, 0, [], j⟩) hm.ts hm.fr hm.base ⟨Row.nil _ _ _ _, rfl⟩ hr3 hg3 (j' := j + O.size) (R := R) (s := s) (Lib.hid (by rw [List.map_append]; exact hst.out)) hOl (by have := hm.len; omega)
        clear hr3 hg3 ho3 hrow
        go_wp2
        go_roundw
        case rel => exact ⟨A2, n + 1, c2, ms ++ [⟨O, none, 0, 0, [], j⟩], j + O.size, rfl, by go_num, hx⟩
        case measure => simp [intOf]; omega
      have hOe := bytes_none dO
      have hW := Lib.hid (wordAt_any w2.heap.size (s.extract j s.size) w2 (Nat.le_refl _) (by simp; omega))
      have hWT := Lib.hid (wd_of_tail s j hle)
      obtain ⟨rT, hrT⟩ : ∃ r, wd (s.extract j s.size) ⟨0, none, []⟩ = r := ⟨_, rfl⟩
      rw [hrT] at hW hWT
      have HE := Lib.hid (fun b (h : rT = .error b) => wd_err (s.extract j s.size) _ ⟨0, none, []⟩ b (Nat.le_refl _) (Nat.zero_le _) (fun _ e => by cases e) (hrT.trans h))
      clear hrT hrow
      go_wp2_with fail
      refine hW.out.mono ?_
      rintro e w3 ⟨A3, n3, c3, k3, bad3, rfl, hf3, hcase⟩
      have hb3 := frB_below hf3
      have hts3 := hm.ts.grow hb3
      have hfr3 : FrB B w w3 := hm.fr.trans (FrB.of_below hb3 hbs)
      have hbs3 : B ≤ w3.heap.size := Nat.le_trans hbs hb3.size
      cases rT with
      | error b =>
        obtain rfl := hcase
        have hst := Lib.hid (hm.res.out.trans (sp_bad (ts := ms.map Tm.tk) hlt (by rw [HC.out]; exact d32) (by rw [HC.out]; exact d35) HOO.out dO hWT.out))
        have hbq : decide ((0 : Int) ≤ b) = true := by simp
        have hb200 : b ≤ 200 := by have := HE.out b rfl; rw [cut_size] at this; omega
        go_wp2
        refine bodyPost_ret (v := .tuple #[.slice none 0 0, .int .i64 (j + b), .int .i64 22]) (by simp [results, Try.results5, go_sem]) rfl ?_
        exact ⟨none, 0, 0, [], j + b, 22, rfl, TS.nil _ _, by rw [hst.out]; rfl, hfr3⟩
      | ok p =>
        obtain ⟨ps3, kk⟩ := p
        obtain ⟨rfl, rfl, hpr3⟩ := hcase
        obtain ⟨g1, g2, g3⟩ := sp_word (ts := ms.map Tm.tk) hlt (by rw [HC.out]; exact d32) (by rw [HC.out]; exact d35) HOO.out dO hWT.out
        have hst := Lib.hid (hm.res.out.trans g3)
        clear g3
        have hbq : decide ((0 : Int) ≤ -1) = false := rfl
        have hrow := hts3.row
        go_wp2_with (at_builtin; refine wpList_append_row _ rfl (.tmp 53) (.tmp 57) 22 rfl B 36 i0 (.agg #[.string ⟨#[]⟩, .slice none 0 0, .int .i64 0]) 3 48 Try.underlying22 hi hz0 hz1 hz2 rfl (by decide) (.slice A n c) n (ms.flatMap Tm.cells) rfl (hrow.alloc _) (w3.heap.size + 1) (some ⟨w3.heap.size, 0, none⟩) 1 1 (Tm.cells ⟨ByteArray.empty, A3, n3, c3, ps3, j⟩) rfl (reads_cells w3 (Tm.cells ⟨ByteArray.empty, A3, n3, c3, ps3, j⟩) 36 rfl) (tm_oneCell _) (by unfold maxLen; omega) (by omega) (by simp; omega) ?_)
        intro A4 c4 w4 hr4 hg4 ho4
        have hx := rm_app (m := ⟨ByteArray.empty, A3, n3, c3, ps3, j⟩) hts3 hfr3 hbs3 ⟨hpr3.1.base_le hbs, hpr3.2⟩ hr4 hg4 (j' := j + kk) (R := R) (s := s) (Lib.hid (by rw [List.map_append]; exact hst.out)) g2 (by have := hm.len; omega)
        clear hr4 hg4 ho4 hrow
        go_wp2
        go_roundw
        case rel => exact ⟨A4, n + 1, c4, ms ++ [⟨ByteArray.empty, A3, n3, c3, ps3, j⟩], j + kk, rfl, by go_num, hx⟩
        case measure => simp [intOf]; omega
end Go.Proofs.Ytdhepkljidpigaa
