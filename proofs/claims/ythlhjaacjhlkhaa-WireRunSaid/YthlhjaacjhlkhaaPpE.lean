/- Contracts of slices.Clone at bytes, and of the pipes' Read. -/
import Derived.Test.YthlhjaacjhlkhaaPpD
import Derived.Lib.SliceRun
namespace Go.Proofs.Ythlhjaacjhlkhaa
open Go.RowKit
set_option maxHeartbeats 400000
set_option linter.unusedVariables false
set_option linter.unusedSimpArgs false
theorem pu8info : (Try.prog.info? 5).map (fun i => (i.zero, i.size, i.bytes)) = some (some (.int .u8 0), 1, 1) := by kernel_rfl
def CloneP (w : World) (n : Nat) (xs : List Int) (e : Ending) (w' : World) : Prop := ∃ v, e = .returned v ∧ Row w' w.heap.size 5 1 v n (xs.map (Value.int .u8)) ∧ Below w.heap.size w w'
set_option maxRecDepth 100000 in
theorem bclone_any (A : Option Addr) (n c : Nat) (xs : List Int) (w : World) (B : Nat) (h : RB w B A n xs) (hB : B ≤ w.heap.size) (hn : n ≤ 140737488355328) :
    Calls Try.prog 90 #[.slice A n c] w (CloneP w n xs) := by
  have HL := Lib.hid h.len
  obtain ⟨i0, hi, hz0, hz1, hz2⟩ := info_parts pu8info
  have hnl := fun (w : World) (a : Option Addr) (n c n' c' : Nat) => Lib.run_eql_slice_nil (P := Try.prog) w 23 5 a n c n' c' Try.underlying23
  rcases A with _ | ⟨b, o, sp⟩
  · have h0 : n = 0 := by
      rcases Nat.eq_zero_or_pos n with h0 | h0
      · exact h0
      · obtain ⟨_, _, e, _⟩ := h.1.2 h0; cases e
    subst h0
    have hx : xs = [] := List.eq_nil_of_length_eq_zero HL.out
    subst hx
    go_enter Try.func90, Try.ntmps90
    go_wp2
    go_ret
    exact ⟨_, rfl, Row.nil _ _ _ _, Below.refl _ _⟩
  · go_enter Try.func90, Try.ntmps90
    go_wp2_with (at_builtin; refine wpList_append_row _ rfl (.tmp 5) (.tmp 6) 23 rfl w.heap.size 5 i0 (.int .u8 0) 1 1 Try.underlying23 hi hz0 hz1 hz2 rfl (by decide) (.slice (some ⟨w.heap.size, 0, none⟩) 0 0) 0 [] rfl ?c1 B (some ⟨b, o, sp⟩) n c (xs.map (Value.int .u8)) rfl ?c2 (u8_oneCell xs) ?c3 ?c4 ?c5 ?_; rotate_left; skip)
    case c1 => exact ⟨rfl, .inr ⟨w.heap.size, 0, 0, #[], rfl, Nat.le_refl _, Blk.new w #[] 5, Nat.le_refl _, by simp, by simp, fun j u hu => by simp at hu⟩⟩
    case c2 => exact Reads.alloc h.1 hB _
    case c3 => unfold maxLen; omega
    case c4 => omega
    case c5 => simp
    intro A' c' w1 hr hg _
    go_wp2
    go_ret
    exact ⟨_, rfl, by simpa using hr, ((Below.refl _ _).alloc (Nat.le_refl _) _).grown hg (by simp) (fun k hk => by simp [Value.ownBlock] at hk; omega)⟩
theorem wpList_min {P : Program} (w : World) {ops : Array Oper} {rest : List Oper} {o : Oper} {a : Act} {Q : Exit → Act → World → Prop} (hgd : o.guard = none) (x y : Operand) (t u : TypeId)
    (ho : o.op = .call { callee := .builtin .min, args := #[x, y], argTypes := #[t, u] }) (p q r : Int) (hx : a.eval x = .int .i64 p) (hy : a.eval y = .int .i64 q) (hr : min p q = r)
    (h : wpList P ops Q rest (a.put o.dst (.int .i64 r)) w) : wpList P ops Q (o :: rest) a w :=
  wpList_plain hgd fun K hK => by
    subst hr
    unfold Oper.wp execOp
    by_cases hpq : q < p
    · have e : min p q = q := by omega
      simp only [ho, resolve, invoke, builtin, Sem.run_bind, Sem.run_pure, Result.andThen_ok, List.map_toArray, List.map_cons, List.map_nil, hx, hy]
      simp [Builtin.min_, Builtin.min2, hpq, go_sem]
      rw [e] at h
      exact hK _ _ h
    · have e : min p q = p := by omega
      simp only [ho, resolve, invoke, builtin, Sem.run_bind, Sem.run_pure, Result.andThen_ok, List.map_toArray, List.map_cons, List.map_nil, hx, hy]
      simp [Builtin.min_, Builtin.min2, hpq, go_sem]
      rw [e] at h
      exact hK _ _ h
theorem wpList_slice_lo {P : Program} {ops : Array Oper} {rest : List Oper} {o : Oper} {a : Act} {Q : Exit → Act → World → Prop} {w : World} (hg : o.guard = none) (t e : TypeId) (x l : Operand) (ho : o.op = .slice t x (some l) none none) (ht : P.underlying t = some (.slice e)) (vx vl : Value) (hx : a.eval x = vx) (hl : a.eval l = vl) (v : Value)
    (hrun : (Instr.slice t vx (some vl) none none).run P w = .ok v w) (h : wpList P ops Q rest (a.put o.dst v) w) : wpList P ops Q (o :: rest) a w :=
  wpList_plain hg fun K hK => by
    unfold Oper.wp execOp
    simp only [ho, hx, hl, Option.map_some, Option.map_none, Instr.sliceAt, Sem.run_bind, run_underlying ht, Result.andThen, hrun]
    exact hK _ _ h
theorem row_cut_run (P : Program) {t e : TypeId} (ht : P.underlying t = some (.slice e)) (hel : P.elem t = e) (hs : ∀ W, (sizeOf e).run P W = .ok 1 W) {w : World} {base n c : Nat} {A : Option Addr} {xs : List Value} (h : Row w base e 1 (.slice A n c) n xs) (k : Nat) (hk : k ≤ n) (hc : n ≤ c) :
    ∃ A', (∀ W, (Instr.slice t (.slice A n c) (some (.int .i64 (k : Int))) none none).run P W = .ok (.slice A' (n - k) (c - k)) W) ∧ Row w base e 1 (.slice A' (n - k) (c - k)) (n - k) (xs.drop k) := by
  refine ⟨if c = k then A else A.map (·.add (k * 1)), fun W => ?_, by simpa using h.cut hk⟩
  rw [run_slice_l (P := P) W t A n c (by rw [hel]; exact ht) .i64 k (by omega) (by omega), hel, hs]
  cases A <;> simp [sliced, Result.andThen, add_plain]
end Go.Proofs.Ythlhjaacjhlkhaa
