/- Who has a lock: the plain law, and contracts of trace.checked and ringref4.TraceWrong. -/
import Derived.Test.YtjdbclcafjlohaaRwC
import Derived.Test.YtjdbclcafjlohaaOwn
namespace Go.Proofs.Ytjdbclcafjlohaa
open Go.RowKit
set_option maxHeartbeats 400000
set_option linter.unusedVariables false
set_option linter.unusedSimpArgs false
theorem tchecked_any (A : Option Addr) (n c : Nat) (rs : List Rc) (w : World) (B : Nat) (h : RR w B A n rs) (hB : B ≤ w.heap.size) (hn : n ≤ 9223372036854775807) :
    Calls Try.prog 41 #[.slice A n c] w fun e w' => e = .returned (.int .i64 (traceErr rs)) ∧ Below w.heap.size w w' := by
  go_enter Try.func41, Try.ntmps41
  go_wp2_with fail
  refine (encode_any A n c rs _ B h hB hn).mono ?_
  rintro e w1 ⟨A1, m1, c1, rfl, hr1, hb1⟩
  clear hr1
  go_wp2
  go_ret
  exact ⟨rfl, hb1⟩
/-- The first of n that is bad, or what is wrong with all. -/
def FirstIs (bad : Nat → Prop) (err : Int) (n : Nat) (a b : Int) : Prop := (err ≠ 0 ∧ a = 0 ∧ b = err) ∨ (err = 0 ∧ ∃ k : Nat, k < n ∧ (∀ j, j < k → ¬ bad j) ∧ bad k ∧ a = k ∧ b = 0) ∨ (err = 0 ∧ (∀ j, j < n → ¬ bad j) ∧ a = 0 ∧ b = 4)
theorem FirstIs.unique {bad : Nat → Prop} {err : Int} {n : Nat} {a b a' b' : Int} (h : FirstIs bad err n a b) (h' : FirstIs bad err n a' b') : a = a' ∧ b = b' := by
  rcases h with ⟨h1, rfl, rfl⟩ | ⟨h1, k, hk, h2, h3, rfl, rfl⟩ | ⟨h1, h2, rfl, rfl⟩ <;> rcases h' with ⟨g1, rfl, rfl⟩ | ⟨g1, k', hk', g2, g3, rfl, rfl⟩ | ⟨g1, g2, rfl, rfl⟩
  · exact ⟨rfl, rfl⟩
  · exact absurd g1 h1
  · exact absurd g1 h1
  · exact absurd h1 g1
  · rcases Nat.lt_trichotomy k k' with hh | hh | hh
    · exact absurd h3 (g2 k hh)
    · subst hh; exact ⟨rfl, rfl⟩
    · exact absurd g3 (h2 k' hh)
  · exact absurd h3 (g2 k hk)
  · exact absurd h1 g1
  · exact absurd g3 (h2 k' hk')
  · exact ⟨rfl, rfl⟩
theorem FirstIs.at_ {bad : Nat → Prop} {err : Int} {n k : Nat} (ht : err = 0) (hk : k < n) (h : ∀ j, j < k → ¬ bad j) (x : bad k) : FirstIs bad err n k 0 := .inr (.inl ⟨ht, k, hk, h, x, rfl, rfl⟩)
def FirstPost (bad : Nat → Prop) (err : Int) (n : Nat) (w : World) (e : Ending) (w' : World) : Prop := ∃ a b, e = .returned (.tuple #[.int .i64 a, .int .i64 b]) ∧ FirstIs bad err n a b ∧ Below w.heap.size w w'
/-- Who has lock o behind a record, if s had it ahead of it. -/
def ow1 (o : Int) (s : Int) (r : Rc) : Int := if r.o = o then (if r.k = 1 then r.t else if r.k = 2 then 0 else s) else s
def ow (rs : List Rc) (o : Int) : Int := rs.foldl (ow1 o) 0
theorem ow_take (rs : List Rc) (k : Nat) (h : k < rs.length) (o : Int) : ow (rs.take (k + 1)) o = ow1 o (ow (rs.take k) o) (rs.getD k .zero) := by
  unfold ow
  rw [List.take_succ_eq_append_getElem h, List.foldl_append]
  simp [List.getD, List.getElem?_eq_getElem h]
theorem ow_range {rs : List Rc} (hg : ∀ k, k < rs.length → (rs.getD k .zero).err = 0) (o : Int) (k : Nat) (h : k ≤ rs.length) : 0 ≤ ow (rs.take k) o ∧ ow (rs.take k) o ≤ 16 := by
  induction k with
  | zero => simp [ow]
  | succ k ih =>
    rw [ow_take rs k (by omega)]
    have h1 := ih (by omega)
    have h2 := Rc.good (hg k (by omega))
    unfold ow1
    (repeat' split) <;> omega
def badR (s : Int) (r : Rc) : Prop := (r.k = 1 ∧ 0 < s) ∨ (r.k = 2 ∧ s ≠ r.t)
def badT (rs : List Rc) (k : Nat) : Prop := badR (ow (rs.take k) (rs.getD k .zero).o) (rs.getD k .zero)
set_option maxHeartbeats 4000000 in
set_option maxRecDepth 100000 in
theorem traceWrong_any (A : Option Addr) (n c : Nat) (rs : List Rc) (w : World) (B : Nat) (h : RR w B A n rs) (hB : B ≤ w.heap.size) (hnc : n ≤ c) (hn : n ≤ 9223372036854775807) :
    Calls Try.prog 29 #[.slice A n c] w (FirstPost (badT rs) (traceErr rs) n w) := by
  have HL := Lib.hid h.2
  by_cases ht : traceErr rs = 0
  · obtain ⟨hsm, hgd⟩ := traceErr_good ht
    have hsm' : n ≤ 400 := by rw [HL.out] at hsm; exact hsm
    have HT := Lib.hid ht
    have HG := Lib.hid hgd
    clear hsm hgd
    go_enter Try.func29, Try.ntmps29
    go_wp2_with (go_at_call 37; refine (fault_any A n c rs _ B h hB hn).mono ?_; rintro e w1 ⟨rfl, hb1⟩; rw [ht])
    clear ht
    go_loopw [17] (fun i wr => ∃ k : Nat, k ≤ n ∧ i = .int .i64 k ∧ Hid (∀ j, j < k → ¬ badT rs j) ∧ Below w.heap.size w wr) (fun i _ => n - (intOf i).toNat)
    case atStart => exact ⟨0, by omega, rfl, Lib.hid (fun j hj => by omega), hb1⟩
    case round =>
      obtain ⟨k, hk, rfl, hok, hbw⟩ := hrel
      by_cases hlt : k < n
      · have hr := h.below' hbw hB
        obtain ⟨b, of, rfl, hb, c0, c1, c2, c3⟩ := hr.at_ hlt
        have hlen : k < rs.length := by rw [HL.out]; exact hlt
        have hOk := Lib.hid (fun x : ¬ badT rs k => ok_next (p := fun j => ¬ badT rs j) hok.out x)
        have hBad := Lib.hid (FirstIs.at_ (n := n) HT.out hlt hok.out)
        have hRg := Lib.hid (fun o => ow_range HG.out o k (Nat.le_of_lt hlen))
        have hbw' : ∀ X, Below w.heap.size w (wr.alloc X) := fun X => hbw.alloc hbw.size X
        unfold badT at hOk hBad
        generalize rs.getD k .zero = r at *
        by_cases h2 : 2 < r.k
        · have hx : ¬ badR (ow (rs.take k) r.o) r := fun hx => by rcases hx with hx | hx <;> omega
          have hn' := Lib.hid (hOk.out hx)
          clear hx
          go_wp2
          go_roundw
          case rel => exact ⟨k + 1, by omega, by go_num, hn', hbw' _⟩
          case measure => simp [intOf]; omega
        · obtain ⟨W, hW⟩ : ∃ W, W = wr := ⟨_, rfl⟩
          subst hW
          have hkc : (k : Int) ≤ c := by omega
          have hkc' : k ≤ c := by omega
          have hlo : W.heap.size < W.heap.size + 1 := Nat.lt_succ_self _
          have hst : Blk (W.alloc (.cells #[.int .i64 r.k, .int .i64 r.c, .int .i64 r.t, .int .i64 r.o] 24)) W.heap.size #[.int .i64 r.k, .int .i64 r.c, .int .i64 r.t, .int .i64 r.o] 24 := Blk.new _ _ _
          have hbl := hbw' (.cells #[.int .i64 r.k, .int .i64 r.c, .int .i64 r.t, .int .i64 r.o] 24)
          go_wp2
          go_loopw [7, 29] (fun s i wr => ∃ m : Nat, m ≤ k ∧ i = .int .i64 m ∧ s = .int .i64 (ow (rs.take m) r.o) ∧ Blk wr W.heap.size #[.int .i64 r.k, .int .i64 r.c, .int .i64 r.t, .int .i64 r.o] 24 ∧ Below w.heap.size w wr) (fun _ i _ => k - (intOf i).toNat)
          case atStart => exact ⟨0, by omega, rfl, rfl, hst, hbl⟩
          case round =>
            obtain ⟨m, hm, rfl, rfl, hbk, hbi⟩ := hrel
            clear hst hbl c0 c1 c2 c3
            have hcb := hbk.cell
            have hltb := hbk.lt
            by_cases hmk : m < k
            · obtain ⟨b', of', e', hb', d0, d1, d2, d3⟩ := (h.below' hbi hB).at_ (show m < n by omega)
              injection e' with e1
              injection e1 with e1 e2
              subst e1; subst e2
              have hT := Lib.hid (ow_take rs m (by omega) r.o)
              have hnx : ∀ X, Blk (wr.alloc X) W.heap.size #[.int .i64 r.k, .int .i64 r.c, .int .i64 r.t, .int .i64 r.o] 24 := fun X => hbk.alloc X
              have hnb : ∀ X, Below w.heap.size w (wr.alloc X) := fun X => hbi.alloc hbi.size X
              have hmc : (m : Int) < k := by omega
              generalize rs.getD m .zero = x at *
              generalize ow (rs.take m) r.o = s at *
              by_cases ho : x.o = r.o
              · have ho' : (x.o == r.o) = true := by simpa using ho
                have hT2 := Lib.hid (hT.out.trans (if_pos ho))
                clear hT ho
                by_cases k1 : x.k = 1
                · have hT3 := Lib.hid (hT2.out.trans (if_pos k1))
                  clear hT2
                  go_wp2
                  go_roundw
                  case rel => exact ⟨m + 1, by omega, by go_num, by rw [hT3.out], hnx _, hnb _⟩
                  case measure => simp [intOf]; omega
                have hT3 := Lib.hid (hT2.out.trans (if_neg k1))
                clear hT2
                by_cases k2 : x.k = 2
                · have hT4 := Lib.hid (hT3.out.trans (if_pos k2))
                  clear hT3
                  go_wp2
                  go_roundw
                  case rel => exact ⟨m + 1, by omega, by go_num, by rw [hT4.out], hnx _, hnb _⟩
                  case measure => simp [intOf]; omega
                have hT4 := Lib.hid (hT3.out.trans (if_neg k2))
                clear hT3
                go_wp2
                go_roundw
                case rel => exact ⟨m + 1, by omega, by go_num, by rw [hT4.out], hnx _, hnb _⟩
                case measure => simp [intOf]; omega
              · have ho' : (x.o == r.o) = false := by simpa using ho
                have hT2 := Lib.hid (hT.out.trans (if_neg ho))
                clear hT ho
                go_wp2
                go_roundw
                case rel => exact ⟨m + 1, by omega, by go_num, by rw [hT2.out], hnx _, hnb _⟩
                case measure => simp [intOf]; omega
            · obtain rfl : m = k := by omega
              have hrg := hRg.out r.o
              generalize ow (rs.take m) r.o = s at *
              by_cases k1 : r.k = 1
              · by_cases hs : 0 < s
                · have hfin := Lib.hid (hBad.out (.inl ⟨k1, hs⟩))
                  go_wp2
                  go_ret2
                  exact ⟨_, _, rfl, hfin.out, hbi⟩
                · have hfin := Lib.hid (hOk.out (fun hx => by rcases hx with hx | hx <;> omega))
                  go_wp2
                  go_roundw
                  case rel => exact ⟨m + 1, by omega, by go_num, hfin, hbi⟩
                  case measure => simp [intOf]; omega
              by_cases k2 : r.k = 2
              · by_cases hs : s = r.t
                · have hs' : (s != r.t) = false := by simpa using hs
                  have hfin := Lib.hid (hOk.out (fun hx => by rcases hx with hx | hx <;> omega))
                  clear hs
                  go_wp2
                  go_roundw
                  case rel => exact ⟨m + 1, by omega, by go_num, hfin, hbi⟩
                  case measure => simp [intOf]; omega
                · have hs' : (s != r.t) = true := by simpa using hs
                  have hfin := Lib.hid (hBad.out (.inr ⟨k2, hs⟩))
                  clear hs
                  go_wp2
                  go_ret2
                  exact ⟨_, _, rfl, hfin.out, hbi⟩
              have hfin := Lib.hid (hOk.out (fun hx => by rcases hx with hx | hx <;> omega))
              go_wp2
              go_roundw
              case rel => exact ⟨m + 1, by omega, by go_num, hfin, hbi⟩
              case measure => simp [intOf]; omega
      · obtain rfl : k = n := by omega
        go_wp2
        go_ret2
        exact ⟨_, _, rfl, .inr (.inr ⟨HT.out, hok.out, rfl, rfl⟩), hbw⟩
  · have ht' : (traceErr rs != 0) = true := by simpa using ht
    go_enter Try.func29, Try.ntmps29
    go_wp2_with (go_at_call 37; refine (fault_any A n c rs _ B h hB hn).mono ?_; rintro e w1 ⟨rfl, hb1⟩)
    go_ret2
    exact ⟨_, _, rfl, .inl ⟨ht, rfl, rfl⟩, hb1⟩
end Go.Proofs.Ytjdbclcafjlohaa
