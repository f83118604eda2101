/- Locks that are slept for: both objects side by side; the contracts over both. -/
import Derived.Test.YtenhcpobncmedaaSeP
namespace Go.Proofs.Ytenhcpobncmedaa
open Go.RowKit Go.Maps
set_option maxHeartbeats 400000
set_option linter.unusedVariables false
set_option linter.unusedSimpArgs false
/-- The program's object at s1, the reference's at s2. -/
def Two (w : World) (g bp bf q bq np nf nq : Nat) (s1 s2 : LkS) (wr : World) : Prop :=
  ∃ vs rs, LkP wr w.heap.size g bp np bf nf vs s1 ∧ LkM wr w.heap.size q bq nq 91 [] rs s2 ∧ (∀ j, LkPF g bp bf vs j → ¬ LkMF q bq rs j) ∧ Below w.heap.size w wr
section
variable {w w1 w2 : World} {g bp bf q bq np nf nq : Nat} {s s1 s2 s' : LkS}
theorem Two.low (h : Two w g bp bf q bq np nf nq s1 s2 w1) : Below w.heap.size w w1 := by
  obtain ⟨vs, rs, h1, h2, h3, h4⟩ := h; exact h4
theorem Two.grow (h : Two w g bp bf q bq np nf nq s1 s2 w1) (hb : Below w1.heap.size w1 w2) : Two w g bp bf q bq np nf nq s1 s2 w2 := by
  obtain ⟨vs, rs, h1, h2, h3, h4⟩ := h
  exact ⟨vs, rs, h1.grow hb, h2.grow hb, h3, h4.trans (hb.mono h4.size)⟩
theorem Two.prog {vs rs : Nat → Value} {np' nf' : Nat} (h1 : LkP w1 w.heap.size g bp np bf nf vs s1) (h2 : LkM w1 w.heap.size q bq nq 91 [] rs s2) (h3 : ∀ j, LkPF g bp bf vs j → ¬ LkMF q bq rs j) (h4 : Below w.heap.size w w1)
    (hgo : LkPGo w1 w.heap.size g bp bf vs np' nf' s' w2) : Two w g bp bf q bq np' nf' nq s' s2 w2 := by
  obtain ⟨vs', a1, a2, a3⟩ := hgo
  refine ⟨vs', rs, a1, h2.keep a2 (fun k hk hk' => h3 k hk' hk), fun j hj hj' => ?_, h4.trans (a2.below h4.size (fun k hk => (h1.lt k hk).1))⟩
  rcases a3 j hj with h | h
  · exact h3 j h hj'
  · have := (h2.lt j hj').2; omega
theorem Two.ref {vs rs : Nat → Value} {nq' : Nat} (h1 : LkP w1 w.heap.size g bp np bf nf vs s1) (h2 : LkM w1 w.heap.size q bq nq 91 [] rs s2) (h3 : ∀ j, LkPF g bp bf vs j → ¬ LkMF q bq rs j) (h4 : Below w.heap.size w w1)
    (hgo : LkMGo w1 w.heap.size q bq 91 [] rs nq' s' w2) : Two w g bp bf q bq np nf nq' s1 s' w2 := by
  obtain ⟨rs', a1, a2, a3⟩ := hgo
  refine ⟨vs, rs', h1.keep a2 (fun k hk hk' => h3 k hk hk'), a1, fun j hj hj' => ?_, h4.trans (a2.below h4.size (fun k hk => (h2.lt k hk).1))⟩
  rcases a3 j hj' with h | h
  · exact h3 j hj h
  · have := (h1.lt j hj).2; omega
theorem Two.rdP (h : Two w g bp bf q bq np nf nq s1 s2 w1) : LkQ w1 g bp np bf nf s1 := by
  obtain ⟨vs, rs, h1, h2, h3, h4⟩ := h; exact h1.rd
theorem Two.rdM (h : Two w g bp bf q bq np nf nq s1 s2 w1) : LkR w1 q bq nq s2 := by
  obtain ⟨vs, rs, h1, h2, h3, h4⟩ := h; exact h2.rd
theorem Two.frz (h : Two w g bp bf q bq np nf nq s1 s2 w1) : (∀ j, w1.frozen? ⟨q, j, none⟩ = false) ∧ q < w1.heap.size := by
  obtain ⟨vs, rs, h1, h2, h3, h4⟩ := h; exact ⟨h2.arr.blk.free, h2.arr.blk.lt⟩
/-- The reference's owner of lock k is x now. -/
theorem Two.setO (h : Two w g bp bf q bq np nf nq s1 s2 w1) {k : Nat} (hk : k < 16) (x : Int) : Two w g bp bf q bq np nf nq s1 ⟨s2.P, updV s2.O k x, s2.F⟩ (w1.setCell ⟨q, 1 + k, none⟩ (.int .i64 x)) := by
  obtain ⟨vs, rs, h1, h2, h3, h4⟩ := h
  exact Two.ref h1 h2 h3 h4 ⟨rs, h2.setO hk x, (Fr.refl _ _).setCell (p := ⟨q, 1 + k, none⟩) (fun _ => .inl (.inl rfl)) _, fun k hk => .inl hk⟩
theorem Two.setP (h : Two w g bp bf q bq np nf nq s1 s2 w1) {t p : Int} (ht : (Lit.int .i64 t).wf = true) (hp : (Lit.int .i64 p).wf = true) (hn : nq ≤ 10000000000000) :
    ∃ w2, (Instr.mapUpdate 78 (.map (some bq)) (.int .i64 t) (.int .i64 p)).run Try.prog w1 = .ok () w2 ∧ Two w g bp bf q bq np nf (nq + 1) s1 ⟨fun z => if z = t then some p else s2.P z, s2.O, s2.F⟩ w2 := by
  obtain ⟨vs, rs, h1, h2, h3, h4⟩ := h
  obtain ⟨w2, hup, hI, hg⟩ := h2.prio.update Try.underlying3 Try.underlying3 Try.underlying78 (by unfold maxLen; omega) ht hp
  exact ⟨w2, hup, Two.ref h1 h2 h3 h4 ⟨rs, h2.setP hg hI, (Fr.of_grown hg).mono (fun k _ e => by injection e with e; exact .inr e.symm), fun k hk => .inl hk⟩⟩
/-- A task comes into row k of the reference. -/
theorem Two.app (h : Two w g bp bf q bq np nf nq s1 s2 w1) {k : Nat} (hk : k < 16) (t : Int) : ∃ A c, w1.cell? ⟨q, 17 + k, none⟩ = some (.slice A (s2.F k).length c) ∧ (s2.F k).length ≤ c ∧ c ≤ maxLen ∧ Row w1 w.heap.size 3 1 (.slice A (s2.F k).length c) (s2.F k).length ((s2.F k).map (Value.int .i64)) ∧
    (∀ w2, Fr (fun j => (Value.slice A (s2.F k).length c).ownBlock = some j) w1 w2 → w2.cell? ⟨q, 17 + k, none⟩ = some (.slice A (s2.F k).length c) ∧ (∀ j, w2.frozen? ⟨q, j, none⟩ = false) ∧ q < w2.heap.size) ∧
    ∀ w2 A1 c1, Fr (fun j => (Value.slice A (s2.F k).length c).ownBlock = some j) w1 w2 → Row w2 w.heap.size 3 1 (.slice A1 ((s2.F k).length + 1) c1) ((s2.F k).length + 1) ((s2.F k).map (Value.int .i64) ++ [.int .i64 t]) → (∀ j, (Value.slice A1 ((s2.F k).length + 1) c1).ownBlock = some j → (Value.slice A (s2.F k).length c).ownBlock = some j ∨ w1.heap.size ≤ j) →
      Two w g bp bf q bq np nf nq s1 ⟨s2.P, s2.O, updV s2.F k (s2.F k ++ [t])⟩ (w2.setCell ⟨q, 17 + k, none⟩ (.slice A1 ((s2.F k).length + 1) c1)) := by
  obtain ⟨vs, rs, h1, h2, h3, h4⟩ := h
  obtain ⟨A, c, hvv, hc1, hc2⟩ := (h2.arr.row k hk).shape
  have hrow := h2.arr.row k hk
  have hcv := h2.arr.cell hk
  rw [hdO_len] at hcv
  rw [hvv] at hcv hrow
  refine ⟨A, c, hcv, hc1, hc2, hrow, fun w2 hf => ?_, fun w2 A1 c1 hf hr ho => ?_⟩
  · have hf' : Fr (fun j => (rs k).ownBlock = some j) w1 w2 := by rw [hvv]; exact hf
    obtain ⟨ka, kb, kc, kd⟩ := Arr.app h2.arr hk hf'
    rw [hdO_len] at ka
    exact ⟨ka.trans (congrArg some hvv), kb, kc⟩
  · have hf' : Fr (fun j => (rs k).ownBlock = some j) w1 w2 := by rw [hvv]; exact hf
    have hr' : Row w2 w.heap.size 3 1 (.slice A1 ((s2.F k).length + 1) c1) (s2.F k ++ [t]).length ((s2.F k ++ [t]).map (Value.int .i64)) := by
      have e : (s2.F k ++ [t]).length = (s2.F k).length + 1 := by simp
      rw [e]; simpa using hr
    have ho' : ∀ j, (Value.slice A1 ((s2.F k).length + 1) c1).ownBlock = some j → (rs k).ownBlock = some j ∨ w1.heap.size ≤ j := fun j hj => by rw [hvv]; exact ho j hj
    exact Two.ref h1 h2 h3 h4 ⟨_, h2.put hk hf' hr' ho', h2.put_fr hk hf', h2.put_own hk ho'⟩
/-! the calls -/
def TwoI (w : World) (g bp bf q bq np nf nq : Nat) (er : Int) (s1 s2 : LkS) (e : Ending) (w' : World) : Prop := e = .returned (.int .i64 er) ∧ ∃ np' nf', np' ≤ np + 1 ∧ nf' ≤ nf + 1 ∧ Two w g bp bf q bq np' nf' nq s1 s2 w'
theorem Two.task (h : Two w g bp bf q bq np nf nq s1 s2 w1) (t p : Int) (hn : np ≤ 10000000000000) : Calls Try.prog 52 #[.pointer (some ⟨g, 0, none⟩), .int .i64 t, .int .i64 p] w1 (TwoI w g bp bf q bq np nf nq (taskE t p) (taskS s1 t p) s2) := by
  obtain ⟨vs, rs, h1, h2, h3, h4⟩ := h
  refine (task52 h1 t p hn).mono ?_
  rintro e w2 ⟨rfl, np', nf', a1, a2, a3⟩
  exact ⟨rfl, np', nf', a1, a2, Two.prog h1 h2 h3 h4 a3⟩
theorem Two.take (hs : LkOk s1) (h : Two w g bp bf q bq np nf nq s1 s2 w1) (t k : Int) (ht : (Lit.int .i64 t).wf = true) (hn : nf ≤ 10000000000000) : Calls Try.prog 53 #[.pointer (some ⟨g, 0, none⟩), .int .i64 t, .int .i64 k] w1 (TwoI w g bp bf q bq np nf nq (takeE s1 t k) (takeS s1 t k) s2) := by
  obtain ⟨vs, rs, h1, h2, h3, h4⟩ := h
  refine (take53 hs h1 h4.size t k ht hn).mono ?_
  rintro e w2 ⟨rfl, np', nf', a1, a2, a3⟩
  exact ⟨rfl, np', nf', a1, a2, Two.prog h1 h2 h3 h4 a3⟩
def TwoF (w : World) (g bp bf q bq np nf nq : Nat) (v er : Int) (s1 s2 : LkS) (e : Ending) (w' : World) : Prop := e = .returned (.tuple #[.int .i64 v, .int .i64 er]) ∧ ∃ np' nf', np' ≤ np + 1 ∧ nf' ≤ nf + 1 ∧ Two w g bp bf q bq np' nf' nq s1 s2 w'
theorem Two.free (hs : LkOk s1) (h : Two w g bp bf q bq np nf nq s1 s2 w1) (t k : Int) (ht : (Lit.int .i64 t).wf = true) (hn : nf ≤ 10000000000000) : Calls Try.prog 57 #[.pointer (some ⟨g, 0, none⟩), .int .i64 t, .int .i64 k] w1 (TwoF w g bp bf q bq np nf nq (freeV s1 t k) (freeE s1 t k) (freeS s1 t k) s2) := by
  obtain ⟨vs, rs, h1, h2, h3, h4⟩ := h
  refine (free57 hs h1 h4.size t k ht hn).mono ?_
  rintro e w2 ⟨rfl, np', nf', a1, a2, a3⟩
  exact ⟨rfl, np', nf', a1, a2, Two.prog h1 h2 h3 h4 a3⟩
theorem Two.drop (hs : LkOk s1) (h : Two w g bp bf q bq np nf nq s1 s2 w1) (t : Int) (ht : (Lit.int .i64 t).wf = true) : Calls Try.prog 60 #[.pointer (some ⟨g, 0, none⟩), .int .i64 t] w1 (TwoI w g bp bf q bq np nf nq (dropE s1 t) (dropS s1 t) s2) := by
  obtain ⟨vs, rs, h1, h2, h3, h4⟩ := h
  refine (drop60 hs h1 h4.size t ht).mono ?_
  rintro e w2 ⟨rfl, np', nf', a1, a2, a3⟩
  exact ⟨rfl, np', nf', a1, a2, Two.prog h1 h2 h3 h4 a3⟩
def TwoN (w : World) (g bp bf q bq np nf nq : Nat) (v : Int) (s1 s2 : LkS) (e : Ending) (w' : World) : Prop := e = .returned (.int .i64 v) ∧ Two w g bp bf q bq np nf nq s1 s2 w'
theorem Two.rfree (hs : LkOk s2) (h : Two w g bp bf q bq np nf nq s1 s2 w1) (hn : nq ≤ 10000000000000) (k : Nat) (hk : k < 16) : Calls Try.prog 58 #[.pointer (some ⟨q, 0, none⟩), .int .i64 k] w1 (TwoN w g bp bf q bq np nf nq (nextI (eff s2) (s2.F k) (s2.F k).length) s1 (passS s2 k (nextI (eff s2) (s2.F k) (s2.F k).length))) := by
  obtain ⟨vs, rs, h1, h2, h3, h4⟩ := h
  refine (free58 hs h2 h4.size hn k hk).mono ?_
  rintro e w2 ⟨rfl, a3⟩
  exact ⟨rfl, Two.ref h1 h2 h3 h4 a3⟩
def TwoV (w : World) (g bp bf q bq np nf nq : Nat) (s1 s2 : LkS) (e : Ending) (w' : World) : Prop := e = .returned (.tuple #[]) ∧ Two w g bp bf q bq np nf nq s1 s2 w'
theorem Two.rgo (hs : LkOk s2) (h : Two w g bp bf q bq np nf nq s1 s2 w1) (t : Int) : Calls Try.prog 59 #[.pointer (some ⟨q, 0, none⟩), .int .i64 t] w1 (TwoV w g bp bf q bq np nf nq s1 (goS s2 t)) := by
  obtain ⟨vs, rs, h1, h2, h3, h4⟩ := h
  refine (go59 h2 h4.size t (fun k hk => hs.len hk)).mono ?_
  rintro e w2 ⟨rfl, a3⟩
  exact ⟨rfl, Two.ref h1 h2 h3 h4 a3⟩
theorem Two.tells (hs : LkOk s) (h : Two w g bp bf q bq np nf nq s s w1) (hn : nq ≤ 10000000000000) : Calls Try.prog 61 #[.pointer (some ⟨g, 0, none⟩), .pointer (some ⟨q, 0, none⟩)] w1 fun e w' => e = .returned (.bool true) ∧ Two w g bp bf q bq np nf nq s s w' := by
  refine (tells61 hs h.rdP h.rdM hn).mono ?_
  rintro e w2 ⟨rfl, hb⟩
  exact ⟨rfl, h.grow hb⟩
theorem Two.congr2 (h : Two w g bp bf q bq np nf nq s1 s2 w1) {s3 : LkS} (e1 : s2.P = s3.P) (e2 : s2.O = s3.O) (e3 : ∀ i, i < 16 → s2.F i = s3.F i) : Two w g bp bf q bq np nf nq s1 s3 w1 := by
  obtain ⟨vs, rs, h1, h2, h3, h4⟩ := h
  exact ⟨vs, rs, h1, h2.congr e1 e2 e3, h3, h4⟩
end
/-! the states stay sound -/
theorem taskS_ok {s : LkS} (hs : LkOk s) (t p : Int) : LkOk (taskS s t p) := by
  unfold taskS
  split
  · exact hs
  · exact hs.setP (by omega) (by omega) (by omega) (by omega)
theorem takeS_ok {s : LkS} (hs : LkOk s) (t k : Int) : LkOk (takeS s t k) := by
  unfold takeS
  split
  · exact hs
  · rename_i h0
    obtain ⟨hk0, hk, hP⟩ := isE_zero (s := s) (t := t) (k := k) (by simpa using h0)
    split
    · exact hs
    · rename_i hw
      split
      · rename_i ho; exact hs.take (by omega) hP ho
      · rename_i ho
        split
        · exact hs
        · rename_i hr
          exact hs.wait (by omega) hP (by simpa using hw) ho hr
theorem nextI_mem {E : Int → Int} {xs : List Int} (h : xs.length ≠ 0) : nextI E xs xs.length ∈ xs := by
  unfold nextI
  rw [if_neg h]
  exact getD_mem (pickN_lt (by omega))
theorem passS_ok {s : LkS} (hs : LkOk s) {k : Nat} (hk : k < 16) : LkOk (passS s k (nextI (eff s) (s.F k) (s.F k).length)) := by
  by_cases h : (s.F k).length = 0
  · have e : s.F k = [] := List.eq_nil_of_length_eq_zero h
    have e1 : nextI (eff s) (s.F k) (s.F k).length = 0 := by rw [h]; rfl
    rw [e1]
    have := (hs.free0 hk e).drop 0
    exact this
  · exact hs.free hk (nextI_mem h)
theorem freeS_ok {s : LkS} (hs : LkOk s) (t k : Int) : LkOk (freeS s t k) := by
  unfold freeS
  split
  · exact hs
  · rename_i h
    have h' : freeE s t k = 0 := by simpa using h
    have hi : isE s t k = 0 := by
      unfold freeE at h'
      split at h'
      · exact h'
      · rename_i h0; simpa using h0
    obtain ⟨hk0, hk, hP⟩ := isE_zero hi
    unfold freeV
    rw [if_neg h]
    exact passS_ok hs (by omega)
theorem dropS_ok {s : LkS} (hs : LkOk s) (t : Int) : LkOk (dropS s t) := by
  unfold dropS
  split
  · exact hs.drop t
  · exact hs
end Go.Proofs.Ytenhcpobncmedaa
