/- One end of a stream, the reference: contracts of seq, awaited, open. -/
import Derived.Test.YthlhjaacjhlkhaaStS
namespace Go.Proofs.Ythlhjaacjhlkhaa
open Go.RowKit
set_option maxHeartbeats 400000
set_option linter.unusedVariables false
set_option linter.unusedSimpArgs false
theorem wrap_seq (i n : Int) : IntKind.u32.wrap (i + IntKind.u32.wrap n) = (i + n) % 4294967296 := wrap_rcv i n
theorem wrap_aw (r n : Int) : IntKind.u32.wrap (IntKind.u32.wrap (r + 1) + IntKind.u32.wrap n) = (r + 1 + n) % 4294967296 := by rw [wrap_u32, wrap_u32, wrap_u32]; omega
theorem wrap_aw1 (r n : Int) : IntKind.u32.wrap (IntKind.u32.wrap (IntKind.u32.wrap (r + 1) + IntKind.u32.wrap n) + 1) = (r + 1 + n + 1) % 4294967296 := by rw [wrap_u32, wrap_u32, wrap_u32, wrap_u32]; omega
theorem ret_u32 {a b : Int} (h : a = b) : Ending.returned (.int .u32 a) = .returned (.int .u32 b) := by rw [h]
section
variable {w : World} {B q : Nat} {s : Sm} {vo vi : Value} {m : Nat}
set_option maxRecDepth 100000 in
theorem rseq (h : RSt w B q s vo vi) (n : Nat) : Calls Try.prog 99 #[.pointer (some ⟨q, 0, none⟩), .int .i64 n] w fun e w' => e = .returned (.int .u32 (s.seqI n)) ∧ w = w' := by
  have hc := (Ob2.blk h).cell
  have hlt := (Ob2.blk h).lt
  dsimp only [rcells] at hc
  have HE := Lib.hid (wrap_seq s.iss n)
  unfold Sm.seqI
  clear h
  go_enter Try.func99, Try.ntmps99
  go_wp2
  go_ret
  exact ⟨ret_u32 HE.out, rfl⟩
set_option maxRecDepth 100000 in
theorem rawaited (h : RSt w B q s vo vi) : Calls Try.prog 115 #[.pointer (some ⟨q, 0, none⟩)] w fun e w' => e = .returned (.int .u32 s.awI) ∧ Below w.heap.size w w' := by
  obtain ⟨A, c, A', c', rfl, rfl, h1, h2, h3, h4⟩ := h.look
  have HC := Lib.hid (fun w' (hb : Below w.heap.size w w') => (Ob2.grow h hb).blk.cell)
  have hc := (Ob2.blk h).cell
  have hlt := (Ob2.blk h).lt
  dsimp only [rcells] at hc HC
  have e1 : s.awI = (s.irs + 1 + s.got.length + (if s.fin = true then 1 else 0)) % 4294967296 := rfl
  clear h
  cases hf : s.fin with
  | false =>
    rw [hf] at hc HC e1
    have HE : Hid (IntKind.u32.wrap (IntKind.u32.wrap (s.irs + 1) + IntKind.u32.wrap s.got.length) = s.awI) := Lib.hid (by rw [e1, wrap_aw]; simp)
    generalize s.awI = aw at *
    generalize s.got.length = l at *
    clear e1 hf
    go_enter Try.func115, Try.ntmps115
    go_wp2
    go_quiet (fail)
    go_wp2
    go_ret
    exact ⟨ret_u32 HE.out, st_drewN (Below.refl _ w) _⟩
  | true =>
    rw [hf] at hc HC e1
    have HE : Hid (((s.irs + 1 + s.got.length) % 4294967296 + 1) % 4294967296 = s.awI) := Lib.hid (by rw [e1, if_pos rfl]; omega)
    generalize s.awI = aw at *
    generalize s.got.length = l at *
    clear e1 hf
    go_enter Try.func115, Try.ntmps115
    go_wp2
    go_quiet (fail)
    go_wp2
    go_ret
    exact ⟨ret_u32 HE.out, st_drewN (Below.refl _ w) _⟩
set_option maxHeartbeats 1000000 in
set_option maxRecDepth 100000 in
theorem ropen (h : RSt w B q s vo vi) (wi : Int) : Calls Try.prog 100 #[.pointer (some ⟨q, 0, none⟩), .int .i64 wi] w (RRetV w B q vo vi (s.openS wi)) := by
  have hc := (Ob2.blk h).cell
  have hf := (Ob2.blk h).free
  have hlt := (Ob2.blk h).lt
  dsimp only [rcells] at hc
  have HX : Hid (RSGo w B q vo vi (s.openS wi) ((((((w.setCell ⟨q, 0, none⟩ (.int .i64 4)).setCell ⟨q, 9, none⟩ (.int .i64 wi)).setCell ⟨q, 6, none⟩ (.int .i64 1)).setCell ⟨q, 7, none⟩ (.int .i64 1)).setCell ⟨q, 13, none⟩ (.int .i64 0)).setCell ⟨q, 14, none⟩ (.int .i64 0))) := Lib.hid (by
    have a1 := Ob2.set1 (cs' := rcells { s with st := 4 }) h 0 (.int .i64 4) (by simp [rcells])
    have a2 := Ob2.set1 (cs' := rcells { s with st := 4, peer := wi }) a1.1 9 (.int .i64 wi) (by simp [rcells])
    have a3 := Ob2.set1 (cs' := rcells { s with st := 4, peer := wi, una := 1 }) a2.1 6 (.int .i64 1) (by simp [rcells])
    have a4 := Ob2.set1 (cs' := rcells { s with st := 4, peer := wi, una := 1, nxt := 1 }) a3.1 7 (.int .i64 1) (by simp [rcells])
    have a5 := Ob2.set1 (cs' := rcells { s with st := 4, peer := wi, una := 1, nxt := 1, wait := 0 }) a4.1 13 (.int .i64 0) (by simp [rcells])
    have a6 := Ob2.set1 (cs' := rcells (s.openS wi)) a5.1 14 (.int .i64 0) (by simp [rcells, Sm.openS])
    exact (((((a1.2.trans a2.2).trans a3.2).trans a4.2).trans a5.2).trans a6.2).go a6.1)
  clear h
  go_enter Try.func100, Try.ntmps100
  go_wp2
  exact bodyPost_ret (v := .tuple #[]) (by simp [results, Try.results100, go_sem]) rfl ⟨rfl, HX.out⟩
end
end Go.Proofs.Ythlhjaacjhlkhaa
