/- Contracts of wrap.Far, slices.Clone at bytes and at slices of bytes, bytes.Equal and slices.EqualFunc. -/
import Derived.Test.YtenhcpobncmedaaSlA
namespace Go.Proofs.Ytenhcpobncmedaa
open Go.RowKit
set_option maxHeartbeats 400000
set_option linter.unusedVariables false
set_option linter.unusedSimpArgs false
/-- P01.1. -/
def farI (a b : Int) : Int := (b - a + 2147483648) % 4294967296 - 2147483648
def U32 (a : Int) : Prop := 0 ≤ a ∧ a < 4294967296
theorem far82 (a b : Int) (w : World) (ha : U32 a) (hb : U32 b) : Calls Try.prog 82 #[.int .u32 a, .int .u32 b] w fun e w' => e = .returned (.int .i64 (farI a b)) ∧ w = w' := by
  obtain ⟨a0, a1⟩ := ha
  obtain ⟨b0, b1⟩ := hb
  go_enter Try.func82, Try.ntmps82
  go_wp2
  go_ret
  refine ⟨sl_int ?_, rfl⟩
  unfold farI wrap64 wrap32
  omega
theorem infoU8 : (Try.prog.info? 5).map (fun i => (i.zero, i.size, i.bytes)) = some (some (.int .u8 0), 1, 1) := by kernel_rfl
theorem infoBs : (Try.prog.info? 30).map (fun i => (i.zero, i.size, i.bytes)) = some (some (.slice none 0 0), 1, 24) := by kernel_rfl
def CloneP (w : World) (e : TypeId) (n : Nat) (vs : List Value) (en : Ending) (w' : World) : Prop := ∃ A' c', en = .returned (.slice A' n c') ∧ Row w' w.heap.size e 1 (.slice A' n c') n vs ∧ Below w.heap.size w w'
set_option maxRecDepth 100000 in
theorem clone80 (A : Option Addr) (n c : Nat) (xs : List Int) (w : World) (B : Nat) (h : Reads w B 1 A n (xs.map (Value.int .u8))) (hB : B ≤ w.heap.size) (hn : n ≤ 140737488355328) :
    Calls Try.prog 80 #[.slice A n c] w (CloneP w 5 n (xs.map (Value.int .u8))) := by
  have HL : Hid (xs.length = n) := Lib.hid (by simpa using h.1)
  obtain ⟨i0, hi, hz0, hz1, hz2⟩ := info_parts infoU8
  have hnl := fun (w : World) (a : Option Addr) (n c n' c' : Nat) => sl_eql_nil (P := Try.prog) w 30 5 a n c n' c' Try.underlying30
  rcases A with _ | ⟨b, o, sp⟩
  · have h0 : n = 0 := by
      rcases Nat.eq_zero_or_pos n with h0 | h0
      · exact h0
      · obtain ⟨_, _, e, _⟩ := h.2 h0; cases e
    subst h0
    have hx : xs = [] := List.eq_nil_of_length_eq_zero HL.out
    subst hx
    go_enter Try.func80, Try.ntmps80
    go_wp2
    go_ret
    exact ⟨_, _, rfl, Row.nil _ _ _ _, Below.refl _ _⟩
  · go_enter Try.func80, Try.ntmps80
    go_wp2_with (at_builtin; refine wpList_append_row _ rfl (.tmp 5) (.tmp 6) 30 rfl w.heap.size 5 i0 (.int .u8 0) 1 1 Try.underlying30 hi hz0 hz1 hz2 rfl (by decide) (.slice (some ⟨w.heap.size, 0, none⟩) 0 0) 0 [] rfl ?c1 B (some ⟨b, o, sp⟩) n c (xs.map (Value.int .u8)) rfl ?c2 (u8_oneCell xs) ?c3 ?c4 ?c5 ?_; rotate_left; skip)
    case c1 => exact ⟨rfl, .inr ⟨w.heap.size, 0, 0, #[], rfl, Nat.le_refl _, Blk.new w #[] 5, Nat.le_refl _, by simp, by simp, fun j u hu => by simp at hu⟩⟩
    case c2 => exact Reads.alloc h hB _
    case c3 => unfold maxLen; omega
    case c4 => omega
    case c5 => simp
    intro A' c' w1 hr hg _
    skip
    go_wp2
    go_ret
    exact ⟨_, _, rfl, hr, ((Below.refl _ _).alloc (Nat.le_refl _) _).grown hg (by simp) (fun k hk => by simp [Value.ownBlock] at hk; omega)⟩
set_option maxRecDepth 100000 in
theorem clone81 (A : Option Addr) (n c : Nat) (vs : List Value) (w : World) (B : Nat) (h : Reads w B 1 A n vs) (h1 : ∀ u ∈ vs, u.oneCell' = true) (hB : B ≤ w.heap.size) (hn : n * 24 ≤ 140737488355328) :
    Calls Try.prog 81 #[.slice A n c] w (CloneP w 30 n vs) := by
  have HL : Hid (vs.length = n) := Lib.hid (by simpa using h.1)
  obtain ⟨i0, hi, hz0, hz1, hz2⟩ := info_parts infoBs
  have hnl := fun (w : World) (a : Option Addr) (n c n' c' : Nat) => sl_eql_nil (P := Try.prog) w 23 30 a n c n' c' Try.underlying23
  rcases A with _ | ⟨b, o, sp⟩
  · have h0 : n = 0 := by
      rcases Nat.eq_zero_or_pos n with h0 | h0
      · exact h0
      · obtain ⟨_, _, e, _⟩ := h.2 h0; cases e
    subst h0
    have hx : vs = [] := List.eq_nil_of_length_eq_zero HL.out
    subst hx
    go_enter Try.func81, Try.ntmps81
    go_wp2
    go_ret
    exact ⟨_, _, rfl, Row.nil _ _ _ _, Below.refl _ _⟩
  · go_enter Try.func81, Try.ntmps81
    go_wp2_with (at_builtin; refine wpList_append_row _ rfl (.tmp 5) (.tmp 6) 23 rfl w.heap.size 30 i0 (.slice none 0 0) 1 24 Try.underlying23 hi hz0 hz1 hz2 rfl (by decide) (.slice (some ⟨w.heap.size, 0, none⟩) 0 0) 0 [] rfl ?c1 B (some ⟨b, o, sp⟩) n c vs rfl ?c2 h1 ?c3 ?c4 ?c5 ?_; rotate_left; skip)
    case c1 => exact ⟨rfl, .inr ⟨w.heap.size, 0, 0, #[], rfl, Nat.le_refl _, Blk.new w #[] 30, Nat.le_refl _, by simp, by simp, fun j u hu => by simp at hu⟩⟩
    case c2 => exact Reads.alloc h hB _
    case c3 => unfold maxLen; omega
    case c4 => omega
    case c5 => simp
    intro A' c' w1 hr hg _
    skip
    go_wp2
    go_ret
    exact ⟨_, _, rfl, hr, ((Below.refl _ _).alloc (Nat.le_refl _) _).grown hg (by simp) (fun k hk => by simp [Value.ownBlock] at hk; omega)⟩
theorem bytesEqual (A A' : Option Addr) (n c n' c' : Nat) (xs ys : List Int) (w : World) (B B' : Nat) (h : RB w B A n xs) (h' : RB w B' A' n' ys) :
    Calls Try.prog 15 #[.slice A n c, .slice A' n' c'] w fun e w' => e = .returned (.bool (decide (xs = ys))) ∧ w = w' := by
  have e1 := h.conv (P := Try.prog) c 30 9 5 Try.underlying30 Try.underlying5 Try.underlying9
  have e2 := h'.conv (P := Try.prog) c' 30 9 5 Try.underlying30 Try.underlying5 Try.underlying9
  have hq := Lib.hid (strOfNums_beq h.2 h'.2)
  go_enter Try.func15, Try.ntmps15
  go_wp2
  go_ret
  exact ⟨sl_bool hq.out, rfl⟩
/-- A slice of bytes. -/
structure Rb where
  A : Option Addr
  n : Nat
  c : Nat
  xs : List Int
def Rb.val (r : Rb) : Value := .slice r.A r.n r.c
def Rb.zero : Rb := ⟨none, 0, 0, []⟩
def Rb.fine (w : World) (B : Nat) (r : Rb) : Prop := RB w B r.A r.n r.xs ∧ r.n ≤ 9223372036854775807
theorem Rb.fine.below' {w w' : World} {B B' : Nat} {r : Rb} (h : r.fine w B) (hb : Below B' w w') (hB : B ≤ B') : r.fine w' B := ⟨h.1.below' hb hB, h.2⟩
theorem Rb.fine.more {w : World} {B B' : Nat} {r : Rb} (h : r.fine w B) (hB : B ≤ B') : r.fine w B' := ⟨h.1.more hB, h.2⟩
/-- A slice of slices of bytes. -/
def RRb (w : World) (B : Nat) (A : Option Addr) (n : Nat) (rs : List Rb) : Prop := Reads w B 1 A n (rs.map Rb.val) ∧ ∀ r ∈ rs, r.fine w B
theorem RRb.below' {w w' : World} {B B' n : Nat} {A : Option Addr} {rs : List Rb} (h : RRb w B A n rs) (hb : Below B' w w') (hB : B ≤ B') : RRb w' B A n rs := ⟨h.1.below' hb hB, fun r hr => (h.2 r hr).below' hb hB⟩
theorem RRb.more {w : World} {B B' n : Nat} {A : Option Addr} {rs : List Rb} (h : RRb w B A n rs) (hB : B ≤ B') : RRb w B' A n rs := ⟨h.1.more hB, fun r hr => (h.2 r hr).more hB⟩
theorem RRb.len {w : World} {B n : Nat} {A : Option Addr} {rs : List Rb} (h : RRb w B A n rs) : rs.length = n := by simpa using h.1.1
theorem RRb.at_ {w : World} {B n i : Nat} {A : Option Addr} {rs : List Rb} (h : RRb w B A n rs) (hi : i < n) :
    ∃ b o r, A = some ⟨b, o, none⟩ ∧ b < B ∧ rs[i]? = some r ∧ r.fine w B ∧ w.cell? ⟨b, o + i, none⟩ = some (.slice r.A r.n r.c) := by
  obtain ⟨b, o, u, e, hb, hx, hc⟩ := h.1.at_ hi
  have hl : i < rs.length := by rw [h.len]; exact hi
  rw [List.getElem?_map, List.getElem?_eq_getElem hl] at hx
  simp only [Option.map_some, Option.some.injEq] at hx
  subst hx
  exact ⟨b, o, rs[i], e, hb, List.getElem?_eq_getElem hl, h.2 _ (List.getElem_mem hl), hc⟩
def Rb.eqs : List Rb → List Rb → Bool
  | [], [] => true
  | r :: rs, q :: qs => decide (r.xs = q.xs) && Rb.eqs rs qs
  | _, _ => false
set_option maxHeartbeats 1000000 in
set_option maxRecDepth 100000 in
theorem equalFunc17 (A A' : Option Addr) (n c c' : Nat) (rs qs : List Rb) (w : World) (B B' : Nat) (h : RRb w B A n rs) (h' : RRb w B' A' n qs) (hn : n ≤ 9223372036854775807) (he : rs.map Rb.xs = qs.map Rb.xs) :
    Calls Try.prog 17 #[.slice A n c, .slice A' n c', .func (.func 15) #[] #[]] w fun e w' => e = .returned (.bool true) ∧ w = w' := by
  have HE := Lib.hid he
  clear he
  go_enter Try.func17, Try.ntmps17
  go_wp2
  go_loop [17] (fun i => ∃ k : Nat, k ≤ n ∧ i = .int .i64 k) (fun i => n - (intOf i).toNat)
  case atStart => exact ⟨0, by omega, rfl⟩
  case round =>
    obtain ⟨k, hk, rfl⟩ := hrel
    by_cases hlt : k < n
    · obtain ⟨b, o, r, rfl, hb, hr, hf, hc⟩ := h.at_ hlt
      obtain ⟨b', o', q, rfl, hb', hq, hf', hc'⟩ := h'.at_ hlt
      have hx : r.xs = q.xs := by
        have := congrArg (fun l => l[k]?) HE.out
        simp only [List.getElem?_map, hr, hq, Option.map_some, Option.some.injEq] at this
        exact this
      have HC := Lib.hid (bytesEqual r.A q.A r.n r.c q.n q.c r.xs q.xs w _ _ hf.1 hf'.1)
      rw [decide_eq_true hx] at HC
      have hkn : (k : Int) < n := by omega
      have hk0 : (0 : Int) ≤ k := by omega
      clear hx hf hf' hr hq
      go_wp2_with fail
      refine HC.out.mono ?_
      rintro e w' ⟨rfl, rfl⟩
      go_wp2
      go_round
      case rel => exact ⟨k + 1, by omega, by go_num⟩
      case measure => simp [intOf]; omega
    · obtain rfl : k = n := by omega
      go_wp2
      go_ret
      exact ⟨rfl, rfl⟩
end Go.Proofs.Ytenhcpobncmedaa
