/- One end of a stream, the reference: contract of Taken. -/
import Derived.Test.YthlhjaacjhlkhaaStT
namespace Go.Proofs.Ythlhjaacjhlkhaa
open Go.RowKit
set_option maxHeartbeats 400000
set_option linter.unusedVariables false
set_option linter.unusedSimpArgs false
def RTkP (vs : List Int) (er : Int) (w : World) (B q : Nat) (vo vi : Value) (s' : Sm) (e : Ending) (w' : World) : Prop :=
  ∃ A c, e = .returned (.tuple #[.slice A vs.length c, .int .i64 er]) ∧ RB w' w'.heap.size A vs.length vs ∧ RSGo w B q vo vi s' w'
section
variable {w : World} {B q : Nat} {s : Sm} {vo vi : Value} {m : Nat}
theorem rtk_bad {er : Int} {w' : World} (h : RSt w B q s vo vi) (hb : Below w.heap.size w w') : RTkP [] er w B q vo vi s (.returned (.tuple #[.slice none 0 0, .int .i64 er])) w' :=
  ⟨none, 0, rfl, ⟨⟨by simp, fun h => by simp at h⟩, fun x hx => by cases hx⟩, Ob2.same h hb⟩
set_option maxHeartbeats 2000000 in
set_option maxRecDepth 100000 in
theorem rtaken_bad (h : RSt w B q s vo vi) (hrd : s.rd ≤ s.got.length) (n : Int) (hz : s.takenE n ≠ 0) :
    Calls Try.prog 44 #[.pointer (some ⟨q, 0, none⟩), .int .i64 n] w (RTkP [] (s.takenE n) w B q vo vi s) := by
  have HBAD := Lib.hid (fun er w' (hb : Below w.heap.size w w') => rtk_bad (er := er) h hb)
  obtain ⟨A0, c0, A', c', rfl, rfl, h1, h2, h3, h4⟩ := h.look
  have hc := (Ob2.blk h).cell
  have hlt := (Ob2.blk h).lt
  dsimp only [rcells] at hc
  obtain ⟨A2, hrun, hr2⟩ := row_cut_run Try.prog Try.underlying23 st_elem23 st_sizeOf5 (Ob2.ri h) s.rd hrd h3
  clear h hr2
  unfold Sm.takenE at hz ⊢
  by_cases q1 : n < 0
  · rw [if_pos (.inl q1)]
    have d1 : decide (n < 0) = true := by simpa using q1
    clear q1 hz
    go_enter Try.func44, Try.ntmps44
    go_wp2
    go_ret2
    exact HBAD.out 1 _ (Below.refl _ _)
  have d1 : decide (n < 0) = false := by simpa using q1
  by_cases q2 : 256 < n
  · rw [if_pos (.inr q2)]
    have d2 : decide (256 < n) = true := by simpa using q2
    clear q1 q2 hz
    go_enter Try.func44, Try.ntmps44
    go_wp2
    go_ret2
    exact HBAD.out 1 _ (Below.refl _ _)
  have d2 : decide (256 < n) = false := by simpa using q2
  rw [if_neg (by omega)] at hz ⊢
  by_cases q3 : s.st < 2
  · rw [if_pos q3]
    have d3 : decide (s.st < 2) = true := by simpa using q3
    clear q1 q2 q3 hz
    go_enter Try.func44, Try.ntmps44
    go_wp2
    go_ret2
    exact HBAD.out 8 _ (Below.refl _ _)
  have d3 : decide (s.st < 2) = false := by simpa using q3
  rw [if_neg q3] at hz ⊢
  by_cases q5 : 0 < n ∧ s.inn.length = 0 ∧ s.fin = false
  · rw [if_pos q5]
    have d5 : decide (0 < n) = true := by simpa using q5.1
    have d6 : s.got.length - s.rd = 0 := by have := q5.2.1; simpa [Sm.inn] using this
    rw [q5.2.2] at hc
    rw [d6] at hrun
    generalize hl0 : s.got.length = l at *
    generalize hr0 : s.rd = rd at *
    by_cases q6 : s.st = 5
    · rw [if_pos q6]
      have d7 : (s.st == 5) = true := by simpa using q6
      clear q1 q2 q3 q5 q6 hz
      go_enter Try.func44, Try.ntmps44
      go_wp2
      go_quiet (fail)
      go_wp2
      go_ret2
      exact HBAD.out 10 _ (st_drewN (Below.refl _ _) _)
    · rw [if_neg q6]
      have d7 : (s.st == 5) = false := by simpa using q6
      clear q1 q2 q3 q5 q6 hz
      go_enter Try.func44, Try.ntmps44
      go_wp2
      go_quiet (fail)
      go_wp2
      go_ret2
      exact HBAD.out 9 _ (st_drewN (Below.refl _ _) _)
  · rw [if_neg q5] at hz
    exact absurd rfl hz
theorem Reads.mid {w : World} {B : Nat} {A : Option Addr} {n k : Nat} {xs : List Value} (h : Reads w B 1 A n xs) (hk : k ≤ n) : Reads w B 1 A k (xs.take k) := by simpa using h.take (k := k) hk
set_option maxHeartbeats 4000000 in
set_option maxRecDepth 100000 in
theorem rtaken_ok (h : RSt w B q s vo vi) (hB : B ≤ w.heap.size) (hrd : s.rd ≤ s.got.length) (hgm : s.got.length ≤ 1000000) (n k : Nat) (hk : min n (s.got.length - s.rd) = k) (hn : n ≤ 256) (hs : ¬ s.st < 2) (hw : ¬ (0 < (n : Int) ∧ s.got.length - s.rd = 0 ∧ s.fin = false)) (dq : Bool)
    (hq : (0 < k ∧ s.st = 4 ∧ dq = true) ∨ (¬ (0 < k ∧ s.st = 4) ∧ dq = s.due)) :
    Calls Try.prog 44 #[.pointer (some ⟨q, 0, none⟩), .int .i64 n] w (RTkP ((s.got.drop s.rd).take k) 0 w B q vo vi { s with rd := s.rd + k, due := dq }) := by
  obtain ⟨i0, ii, hz0, hz1, hz2⟩ := info_parts pu8info
  have HG := Lib.hid h
  obtain ⟨A0, c0, A', c', rfl, rfl, h1, h2, h3, h4⟩ := h.look
  have hc := (Ob2.blk h).cell
  have hf := fun n => (Ob2.grow h (st_drewN (Below.refl _ w) n)).blk.free
  have hlt := (Ob2.blk h).lt
  dsimp only [rcells] at hc
  obtain ⟨A2, hrun, hr2⟩ := row_cut_run Try.prog Try.underlying23 st_elem23 st_sizeOf5 (Ob2.ri h) s.rd hrd h3
  rw [← List.map_drop] at hr2
  have hbi : Byt ((s.got.drop s.rd).take k) := byt_take (byt_drop (Ob2.bi h) s.rd) k
  have hkl : k ≤ s.got.length - s.rd := by omega
  have hlen : ((s.got.drop s.rd).take k).length = k := by rw [List.length_take, List.length_drop]; omega
  have hngv : (Value.slice A2 (s.got.length - s.rd) (c' - s.rd)).ownBlock ≠ some q := fun e => by
    rcases hr2.2 with ⟨e1, _⟩ | ⟨g1, o1, cap1, cur1, e1, _, hg1, _⟩
    · rw [e1] at e; simp [Value.ownBlock] at e
    · rw [e1] at e; simp [Value.ownBlock] at e; subst e
      have h5 := (Ob2.blk h)
      unfold Blk at h5
      rw [h5] at hg1
      injection hg1 with hg1
      injection hg1 with _ hg1
      exact absurd hg1 (by decide)
  have HS1 : Hid (∀ m, RSt ((w.drewN m).setCell ⟨q, 5, none⟩ (.int .i64 ((s.rd : Int) + k))) B q { s with rd := s.rd + k } (.slice A0 s.said.length c0) (.slice A' s.got.length c') ∧ At2 w q (.slice A0 s.said.length c0) (.slice A' s.got.length c') ((w.drewN m).setCell ⟨q, 5, none⟩ (.int .i64 ((s.rd : Int) + k))) (.slice A0 s.said.length c0) (.slice A' s.got.length c')) := Lib.hid (fun m => by
    have a1 := Ob2.set1 (cs' := rcells { s with rd := s.rd + k }) (Ob2.grow HG.out (st_drewN (Below.refl _ w) m)) 5 (.int .i64 ((s.rd : Int) + k)) (by simp [rcells])
    exact ⟨a1.1, (At2.grow (g := q) (st_drewN (Below.refl _ w) m)).trans a1.2⟩)
  have HS2 : Hid (∀ m, RSt (((w.drewN m).setCell ⟨q, 12, none⟩ (.bool true)).setCell ⟨q, 5, none⟩ (.int .i64 ((s.rd : Int) + k))) B q { s with rd := s.rd + k, due := true } (.slice A0 s.said.length c0) (.slice A' s.got.length c') ∧ At2 w q (.slice A0 s.said.length c0) (.slice A' s.got.length c') (((w.drewN m).setCell ⟨q, 12, none⟩ (.bool true)).setCell ⟨q, 5, none⟩ (.int .i64 ((s.rd : Int) + k))) (.slice A0 s.said.length c0) (.slice A' s.got.length c')) := Lib.hid (fun m => by
    have a0 := Ob2.set1 (cs' := rcells { s with due := true }) (Ob2.grow HG.out (st_drewN (Below.refl _ w) m)) 12 (.bool true) (by simp [rcells])
    have a1 := Ob2.set1 (cs' := rcells { s with rd := s.rd + k, due := true }) a0.1 5 (.int .i64 ((s.rd : Int) + k)) (by simp [rcells])
    exact ⟨a1.1, ((At2.grow (g := q) (st_drewN (Below.refl _ w) m)).trans a0.2).trans a1.2⟩)
  have HR1 : Hid (∀ m, Reads ((w.drewN m).setCell ⟨q, 5, none⟩ (.int .i64 ((s.rd : Int) + k))) w.heap.size 1 A2 k (((s.got.drop s.rd).map (Value.int .u8)).take k)) := Lib.hid (fun m => Reads.mid (((hr2.grow (st_drewN (Below.refl _ w) m)).setCell (p := ⟨q, 5, none⟩) hngv _).reads.more (by simp)) hkl)
  have HR2 : Hid (∀ m, Reads (((w.drewN m).setCell ⟨q, 12, none⟩ (.bool true)).setCell ⟨q, 5, none⟩ (.int .i64 ((s.rd : Int) + k))) w.heap.size 1 A2 k (((s.got.drop s.rd).map (Value.int .u8)).take k)) := Lib.hid (fun m => Reads.mid ((((hr2.grow (st_drewN (Below.refl _ w) m)).setCell (p := ⟨q, 12, none⟩) hngv _).setCell (p := ⟨q, 5, none⟩) hngv _).reads.more (by simp)) hkl)
  have HONE := Lib.hid (u8_oneCell (s.got.drop s.rd))
  have hd8 : Hid (∀ u ∈ ((s.got.drop s.rd).map (Value.int .u8)).take k, u.oneCell' = true) := Lib.hid (fun u hu => HONE.out u (List.mem_of_mem_take hu))
  have HFIN : Hid (∀ W s', RSt W B q s' (.slice A0 s.said.length c0) (.slice A' s.got.length c') → At2 w q (.slice A0 s.said.length c0) (.slice A' s.got.length c') W (.slice A0 s.said.length c0) (.slice A' s.got.length c') → ∀ w9, Below W.heap.size W w9 → ∀ A9 c9, Row w9 w.heap.size 5 1 (.slice A9 k c9) k (((s.got.drop s.rd).map (Value.int .u8)).take k) →
      RTkP ((s.got.drop s.rd).take k) 0 w B q (.slice A0 s.said.length c0) (.slice A' s.got.length c') s' (.returned (.tuple #[.slice A9 k c9, .int .i64 0])) w9) := Lib.hid (fun W s' h1 h2 w9 hb A9 c9 hr => by
    refine ⟨A9, c9, by rw [hlen], ⟨?_, hbi⟩, (h2.more hb).go (Ob2.grow h1 hb)⟩
    rw [hlen, List.map_take]
    exact hr.reads)
  clear hr2 hngv hlen hbi h HG
  generalize (s.got.drop s.rd).take k = vs at *
  generalize ((s.got.drop s.rd).map (Value.int .u8)).take k = news at *
  generalize hli : s.got.length - s.rd = li at *
  generalize hc2 : c' - s.rd = c2 at *
  have hlc : li ≤ c2 := by omega
  have hc2m : c2 ≤ 9223372036854775807 := by omega
  have d1 : decide ((n : Int) < 0) = false := by simp
  have d2 : decide (256 < (n : Int)) = false := by simp; omega
  have d3 : decide (s.st < 2) = false := by simpa using hs
  have hrd2 : s.rd ≤ 1000000 := by omega
  generalize hgl : s.got.length = l at *
  have hd := hq
  clear hq hgl hli hc2 hs
  rcases (by omega : n = 0 ∨ (0 < n ∧ li = 0) ∨ (0 < n ∧ 0 < li)) with hn0 | ⟨hn0, hl0⟩ | ⟨hn0, hl0⟩
  · have hk0 : k = 0 := by omega
    have hdd : dq = s.due := by
      rcases hd with hd | hd
      · omega
      · exact hd.2
    subst hdd
    subst hn0
    subst hk0
    clear hk hkl hd
    clear hw
    go_enter Try.func44, Try.ntmps44
    go_wp2
    go_quiet (fail)
    go_wp2_with (at_builtin; refine wpList_append_row _ rfl _ (.tmp 74) 23 rfl w.heap.size 5 i0 (.int .u8 0) 1 1 Try.underlying23 ii hz0 hz1 hz2 rfl (by decide) (.slice none 0 0) 0 [] rfl (Row.nil _ _ _ _) w.heap.size A2 0 c2 news rfl (HR1.out nq) hd8.out ?c3 ?c4 ?c5 ?_; rotate_left; skip)
    case c3 => unfold maxLen; omega
    case c4 => omega
    case c5 => simp
    intro A9 c9 w9 hr9 hg9 _
    have HB9 := Lib.hid (Grow.of_none hg9)
    have HR9 := Lib.hid hr9
    clear hr9 hg9
    go_wp2
    go_ret2
    exact HFIN.out _ _ (HS1.out nq).1 (HS1.out nq).2 w9 HB9.out A9 c9 (by simpa using HR9.out)
  · have hk0 : k = 0 := by omega
    have hdd : dq = s.due := by
      rcases hd with hd | hd
      · omega
      · exact hd.2
    have hfi : s.fin = true := by
      cases hf : s.fin with
      | true => rfl
      | false => exact absurd ⟨by omega, hl0, hf⟩ hw
    rw [hfi] at hc
    subst hdd
    subst hl0
    subst hk0
    have t1 : decide (0 < (n : Int)) = true := by simp; omega
    clear hk hkl hd hfi
    clear hw
    go_enter Try.func44, Try.ntmps44
    go_wp2
    go_quiet (fail)
    go_wp2_with (at_builtin; refine wpList_append_row _ rfl _ (.tmp 74) 23 rfl w.heap.size 5 i0 (.int .u8 0) 1 1 Try.underlying23 ii hz0 hz1 hz2 rfl (by decide) (.slice none 0 0) 0 [] rfl (Row.nil _ _ _ _) w.heap.size A2 0 c2 news rfl (HR1.out nq) hd8.out ?c3 ?c4 ?c5 ?_; rotate_left; skip)
    case c3 => unfold maxLen; omega
    case c4 => omega
    case c5 => simp
    intro A9 c9 w9 hr9 hg9 _
    have HB9 := Lib.hid (Grow.of_none hg9)
    have HR9 := Lib.hid hr9
    clear hr9 hg9
    go_wp2
    go_ret2
    exact HFIN.out _ _ (HS1.out nq).1 (HS1.out nq).2 w9 HB9.out A9 c9 (by simpa using HR9.out)
  · have t1 : decide (0 < (n : Int)) = true := by simp; omega
    have t2 : ((li : Int) == 0) = false := by rw [beq_eq_false_iff_ne]; omega
    by_cases hnl : li < n
    · have hk0 : k = li := by omega
      have t3 : decide ((li : Int) < n) = true := by simp; omega
      subst hk0
      rcases hd with ⟨-, h4', rfl⟩ | ⟨h4', rfl⟩
      · have t4 : (s.st == 4) = true := by simpa using h4'
        clear hk hkl h4'
        clear hw
        go_enter Try.func44, Try.ntmps44
        go_wp2
        go_quiet (fail)
        go_wp2_with (at_builtin; refine wpList_append_row _ rfl _ (.tmp 74) 23 rfl w.heap.size 5 i0 (.int .u8 0) 1 1 Try.underlying23 ii hz0 hz1 hz2 rfl (by decide) (.slice none 0 0) 0 [] rfl (Row.nil _ _ _ _) w.heap.size A2 k c2 news rfl (HR2.out nq) hd8.out ?c3 ?c4 ?c5 ?_; rotate_left; skip)
        case c3 => unfold maxLen; omega
        case c4 => omega
        case c5 => simp
        intro A9 c9 w9 hr9 hg9 _
        have HB9 := Lib.hid (Grow.of_none hg9)
        have HR9 := Lib.hid hr9
        clear hr9 hg9
        go_wp2
        go_ret2
        exact HFIN.out _ _ (HS2.out nq).1 (HS2.out nq).2 w9 HB9.out A9 c9 (by simpa using HR9.out)
      · have t4 : (s.st == 4) = false := by simp; omega
        clear hk hkl h4'
        clear hw
        go_enter Try.func44, Try.ntmps44
        go_wp2
        go_quiet (fail)
        go_wp2_with (at_builtin; refine wpList_append_row _ rfl _ (.tmp 74) 23 rfl w.heap.size 5 i0 (.int .u8 0) 1 1 Try.underlying23 ii hz0 hz1 hz2 rfl (by decide) (.slice none 0 0) 0 [] rfl (Row.nil _ _ _ _) w.heap.size A2 k c2 news rfl (HR1.out nq) hd8.out ?c3 ?c4 ?c5 ?_; rotate_left; skip)
        case c3 => unfold maxLen; omega
        case c4 => omega
        case c5 => simp
        intro A9 c9 w9 hr9 hg9 _
        have HB9 := Lib.hid (Grow.of_none hg9)
        have HR9 := Lib.hid hr9
        clear hr9 hg9
        go_wp2
        go_ret2
        exact HFIN.out _ _ (HS1.out nq).1 (HS1.out nq).2 w9 HB9.out A9 c9 (by simpa using HR9.out)
    · have hk0 : k = n := by omega
      have t3 : decide ((li : Int) < n) = false := by simp; omega
      subst hk0
      rcases hd with ⟨-, h4', rfl⟩ | ⟨h4', rfl⟩
      · have t4 : (s.st == 4) = true := by simpa using h4'
        clear hk h4'
        clear hw
        go_enter Try.func44, Try.ntmps44
        go_wp2
        go_quiet (fail)
        go_wp2_with (at_builtin; refine wpList_append_row _ rfl _ (.tmp 74) 23 rfl w.heap.size 5 i0 (.int .u8 0) 1 1 Try.underlying23 ii hz0 hz1 hz2 rfl (by decide) (.slice none 0 0) 0 [] rfl (Row.nil _ _ _ _) w.heap.size A2 k c2 news rfl (HR2.out nq) hd8.out ?c3 ?c4 ?c5 ?_; rotate_left; skip)
        case c3 => unfold maxLen; omega
        case c4 => omega
        case c5 => simp
        intro A9 c9 w9 hr9 hg9 _
        have HB9 := Lib.hid (Grow.of_none hg9)
        have HR9 := Lib.hid hr9
        clear hr9 hg9
        go_wp2
        go_ret2
        exact HFIN.out _ _ (HS2.out nq).1 (HS2.out nq).2 w9 HB9.out A9 c9 (by simpa using HR9.out)
      · have t4 : (s.st == 4) = false := by simp; omega
        clear hk h4'
        clear hw
        go_enter Try.func44, Try.ntmps44
        go_wp2
        go_quiet (fail)
        go_wp2_with (at_builtin; refine wpList_append_row _ rfl _ (.tmp 74) 23 rfl w.heap.size 5 i0 (.int .u8 0) 1 1 Try.underlying23 ii hz0 hz1 hz2 rfl (by decide) (.slice none 0 0) 0 [] rfl (Row.nil _ _ _ _) w.heap.size A2 k c2 news rfl (HR1.out nq) hd8.out ?c3 ?c4 ?c5 ?_; rotate_left; skip)
        case c3 => unfold maxLen; omega
        case c4 => omega
        case c5 => simp
        intro A9 c9 w9 hr9 hg9 _
        have HB9 := Lib.hid (Grow.of_none hg9)
        have HR9 := Lib.hid hr9
        clear hr9 hg9
        go_wp2
        go_ret2
        exact HFIN.out _ _ (HS1.out nq).1 (HS1.out nq).2 w9 HB9.out A9 c9 (by simpa using HR9.out)
theorem rtaken (h : RSt w B q s vo vi) (hB : B ≤ w.heap.size) (hrd : s.rd ≤ s.got.length) (hgm : s.got.length ≤ 1000000) (n : Int) :
    Calls Try.prog 44 #[.pointer (some ⟨q, 0, none⟩), .int .i64 n] w (RTkP (s.takenV n) (s.takenE n) w B q vo vi (s.takenS n)) := by
  by_cases hz : s.takenE n = 0
  · have e1 : s.takenV n = s.inn.take (s.takenN n) := if_pos hz
    have e2 : s.takenS n = { s with rd := s.rd + s.takenN n, due := s.due || (decide (0 < s.takenN n) && decide (s.st = 4)) } := if_pos hz
    rw [e1, e2, hz]
    unfold Sm.takenE at hz
    split at hz
    · cases hz
    · rename_i h1
      split at hz
      · cases hz
      · rename_i h2
        split at hz
        · split at hz <;> cases hz
        · rename_i h3
          obtain ⟨n', rfl⟩ := Int.eq_ofNat_of_zero_le (by omega : 0 ≤ n)
          have hl : s.inn.length = s.got.length - s.rd := by simp [Sm.inn]
          refine rtaken_ok h hB hrd hgm n' (s.takenN n') (by unfold Sm.takenN; rw [hl]; simp) (by omega) h2 (by rw [← hl]; exact h3) _ ?_
          by_cases hk : 0 < s.takenN n' ∧ s.st = 4
          · exact .inl ⟨hk.1, hk.2, by simp [hk.1, hk.2]⟩
          · exact .inr ⟨hk, by rw [← Bool.decide_and, decide_eq_false hk]; simp⟩
  · have e1 : s.takenV n = [] := if_neg hz
    have e2 : s.takenS n = s := if_neg hz
    rw [e1, e2]
    exact rtaken_bad h hrd n hz
end
end Go.Proofs.Ythlhjaacjhlkhaa
