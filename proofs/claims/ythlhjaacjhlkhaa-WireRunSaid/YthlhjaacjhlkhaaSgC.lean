/- One end of a stream: lists of segments in memory; one segment more; the tie through say. -/
import Derived.Test.YthlhjaacjhlkhaaSgB
import Derived.Test.YthlhjaacjhlkhaaStK
namespace Go.Proofs.Ythlhjaacjhlkhaa
open Go.RowKit
set_option maxHeartbeats 400000
set_option linter.unusedVariables false
set_option linter.unusedSimpArgs false
theorem pseginfo : (Try.prog.info? 25).map (fun i => (i.zero, i.size, i.bytes)) = some (some (.agg #[.int .u32 0, .int .u32 0, .int .i64 0, .int .i64 0, .slice none 0 0]), 5, 48) := by kernel_rfl
/-- A segment in memory: where its bytes lie. -/
structure Sq where
  sg : Sg
  A : Option Addr
  c : Nat
def Sq.cl (r : Sq) : List Value := [.int .u32 r.sg.seq, .int .u32 r.sg.ack, .int .i64 r.sg.flags, .int .i64 r.sg.window, .slice r.A r.sg.dat.length r.c]
theorem Sq.cl_len (r : Sq) : r.cl.length = 5 := rfl
theorem cls_len (rs : List Sq) : (rs.flatMap Sq.cl).length = rs.length * 5 := by
  induction rs with
  | nil => rfl
  | cons r rs ih => simp only [List.flatMap_cons, List.length_append, Sq.cl_len, ih, List.length_cons]; omega
/-- A list of segments of the call's own, in blocks from B on. -/
def SgL (W : World) (B : Nat) (v : Value) (L : List Sg) : Prop :=
  ∃ rs : List Sq, rs.map Sq.sg = L ∧ Row W B 25 5 v rs.length (rs.flatMap Sq.cl) ∧ ∀ r ∈ rs, Row W B 5 1 (.slice r.A r.sg.dat.length r.c) r.sg.dat.length (r.sg.dat.map (Value.int .u8)) ∧ Byt r.sg.dat
namespace SgL
variable {W W' : World} {B : Nat} {v : Value} {L : List Sg}
theorem nil (W : World) (B : Nat) : SgL W B (.slice none 0 0) [] := ⟨[], rfl, Row.nil _ _ _ _, fun r hr => by cases hr⟩
theorem fr {S : Nat → Prop} (h : SgL W B v L) (hf : Fr S W W') (hS : ∀ k, S k → k < B) : SgL W' B v L := by
  obtain ⟨rs, e, h1, h2⟩ := h
  refine ⟨rs, e, h1.fr hf (fun k hk hs => by have := (h1.lt k hk).1; have := hS k hs; omega), fun r hr => ⟨(h2 r hr).1.fr hf (fun k hk hs => by have := ((h2 r hr).1.lt k hk).1; have := hS k hs; omega), (h2 r hr).2⟩⟩
theorem grow (h : SgL W B v L) (hb : Below W.heap.size W W') : SgL W' B v L := h.fr (Fr.of_grow hb) (fun k hk => hk.elim)
theorem shape (h : SgL W B v L) : ∃ A c, v = .slice A L.length c := by
  obtain ⟨rs, e, h1, h2⟩ := h
  obtain ⟨A, c, e2, _⟩ := h1.shape
  exact ⟨A, c, by rw [e2, ← e, List.length_map]⟩
end SgL
theorem row_ne_row {w : World} {B B' n n' : Nat} {v v' : Value} {e e' : TypeId} {sz sz' : Nat} {xs xs' : List Value} (h : Row w B e sz v n xs) (h' : Row w B' e' sz' v' n' xs') (hne : e ≠ e') : ∀ k, v.ownBlock = some k → v'.ownBlock ≠ some k := by
  intro k hk hk'
  rcases h'.2 with ⟨rfl, _⟩ | ⟨g', o, cap, cur, rfl, _, hh, _⟩
  · simp [Value.ownBlock] at hk'
  · have : g' = k := by simpa [Value.ownBlock] using hk'
    subst this
    exact row_ne_blk (cs := cur) (t := e') h hh hne hk
/-- The cells of a new block read as a list. -/
theorem reads_new (w : World) (cs : Array Value) (t : TypeId) (size : Nat) (hs : cs.size = size) : Reads (w.alloc (.cells cs t)) (w.heap.size + 1) size (some ⟨w.heap.size, 0, none⟩) 1 cs.toList := by
  refine ⟨by simp [hs], fun _ => ⟨w.heap.size, 0, rfl, by omega, fun j u hu => ?_⟩⟩
  have := (Blk.new w cs t).cell j
  rw [Nat.zero_add, this]
  simpa using hu
/-- One segment more: behind the append. -/
theorem SgL.app {W W1 : World} {B : Nat} {A : Option Addr} {c : Nat} {L : List Sg} {sg : Sg} {A5 : Option Addr} {c5 : Nat} (h : SgL W B (.slice A L.length c) L) (hb : Below W.heap.size W W1)
    (hr : Row W B 5 1 (.slice A5 sg.dat.length c5) sg.dat.length (sg.dat.map (Value.int .u8))) (hby : Byt sg.dat) :
    ∃ xs, Row W1 B 25 5 (.slice A L.length c) L.length xs ∧ ∀ W2 A' c', Row W2 B 25 5 (.slice A' (L.length + 1) c') (L.length + 1) (xs ++ (Sq.mk sg A5 c5).cl) → W1.grownBy W2 (Value.slice A L.length c).ownBlock → SgL W2 B (.slice A' (L.length + 1) c') (L ++ [sg]) := by
  obtain ⟨rs, rfl, h1, h2⟩ := h
  have hl : (rs.map Sq.sg).length = rs.length := List.length_map ..
  rw [hl] at h1
  refine ⟨rs.flatMap Sq.cl, by rw [hl]; exact h1.grow hb, fun W2 A' c' hr2 hg => ?_⟩
  rw [hl] at hr2 hg ⊢
  have hf := Fr.of_grown hg
  refine ⟨rs ++ [⟨sg, A5, c5⟩], by simp, by simpa using hr2, fun r hm => ?_⟩
  rcases List.mem_append.1 hm with hm | hm
  · exact ⟨((h2 r hm).1.grow hb).fr hf (fun k hk e => row_ne_row ((h2 r hm).1.grow hb) (h1.grow hb) (by decide) k hk e), (h2 r hm).2⟩
  · simp at hm
    subst hm
    exact ⟨(hr.grow hb).fr hf (fun k hk e => row_ne_row (hr.grow hb) (h1.grow hb) (by decide) k hk e), hby⟩
/-! the tie through say -/
section
variable {s : Sm} {x : EC} {m : Nat}
theorem tie_say (t : Tie s x) (h1 : s.top ≤ 1000000) (h2 : s.nxt ≤ s.top) (p : Nat) (hp : p ≤ 100) : Tie (s.sayS p) (sayX x p) := by
  have e1 : (x.nxt + (p : Int)) % 4294967296 = s.seqI (s.nxt + p) := by
    rw [t.nxt]; unfold Sm.seqI; omega
  refine ⟨t.st, t.una, e1, ?_, t.first, t.rcv, t.peer, t.shut, t.fin, rfl, t.wait, t.tries⟩
  show (if befB x.top ((x.nxt + p) % 4294967296) = true then (x.nxt + p) % 4294967296 else x.top) = s.seqI (max s.top (s.nxt + p))
  have hb : befB x.top ((x.nxt + (p : Int)) % 4294967296) = true ↔ s.top < s.nxt + p := by
    rw [e1, t.top]
    unfold befB Sm.seqI
    simp only [decide_eq_true_eq]
    omega
  by_cases h : s.top < s.nxt + p
  · rw [if_pos (hb.2 h), e1, show max s.top (s.nxt + p) = s.nxt + p by omega]
  · rw [if_neg (fun hh => h (hb.1 hh)), t.top, show max s.top (s.nxt + p) = s.top by omega]
theorem tie_saySg (t : Tie s x) (h2 : 2 ≤ s.st) (h4 : s.st ≤ 4) (fl : Int) (many : Nat) : sayE x s.inn.length fl ((s.said.drop (s.nxt - 1)).take many) = s.saySg fl many := by
  unfold sayE Sm.saySg
  rw [t.nxt, t.st]
  have e1 : (if 3 ≤ s.st then x.rcv else 0) = (if 2 < s.st then s.awI else 0) := by
    by_cases h : 3 ≤ s.st
    · rw [if_pos h, if_pos (by omega)]; exact t.rcv (by omega)
    · rw [if_neg h, if_neg (by omega)]
  have e2 : (if 3 ≤ s.st then fl + 2 else fl) = (if 2 < s.st then fl + 2 else fl) := by
    by_cases h : 3 ≤ s.st
    · rw [if_pos h, if_pos (by omega)]
    · rw [if_neg h, if_neg (by omega)]
  rw [e1, e2]
  rfl
end
/-- All that say leaves alone. -/
structure Sam (s s1 : Sm) : Prop where
  st : s1.st = s.st
  said : s1.said = s.said
  got : s1.got = s.got
  rd : s1.rd = s.rd
  una : s1.una = s.una
  peer : s1.peer = s.peer
  shut : s1.shut = s.shut
theorem Sam.refl (s : Sm) : Sam s s := ⟨rfl, rfl, rfl, rfl, rfl, rfl, rfl⟩
theorem Sam.say {s s1 : Sm} (h : Sam s s1) (p : Nat) : Sam s (s1.sayS p) := ⟨h.st, h.said, h.got, h.rd, h.una, h.peer, h.shut⟩
theorem Sam.out {s s1 : Sm} (h : Sam s s1) : s1.out = s.out := by unfold Sm.out Sm.acked; rw [h.said, h.una]
theorem Sam.inn {s s1 : Sm} (h : Sam s s1) : s1.inn = s.inn := by unfold Sm.inn; rw [h.got, h.rd]
theorem Sam.acked {s s1 : Sm} (h : Sam s s1) : s1.acked = s.acked := by unfold Sm.acked; rw [h.said, h.una]
theorem Sam.limit {s s1 : Sm} (h : Sam s s1) : s1.limitN = s.limitN := by unfold Sm.limitN; rw [h.acked, h.peer, h.said]
/-- Under way in Out: the program's end; what is to go out so far. -/
structure OutS (w : World) (B g : Nat) (vo vi : Value) (s : Sm) (m : Nat) (W : World) (v : Value) (L : List Sg) (s1 : Sm) (x1 : EC) : Prop where
  tie : Tie s1 x1
  ok : s1.Ok m
  sam : Sam s s1
  o : ESt W B g x1 vo vi s.out s.inn
  f : Fr (fun k => k = g) w W
  l : SgL W w.heap.size v L
/-- The same of the reference. -/
structure OutR (w : World) (B q : Nat) (vo vi : Value) (s : Sm) (m : Nat) (W : World) (v : Value) (L : List Sg) (s1 : Sm) : Prop where
  ok : s1.Ok m
  sam : Sam s s1
  o : Ob2 W B q 66 (rcells s1) vo vi s.said s.got
  f : Fr (fun k => k = q) w W
  l : SgL W w.heap.size v L
/-- One say and one append, both ends alike: the world behind the append. -/
theorem out_step {w W W5 : World} {B g : Nat} {t : TypeId} {vo vi : Value} {xs ys : List Int} {cs' : Value → Value → Array Value} {L : List Sg} {sg : Sg} {A : Option Addr} {c : Nat} {A5 : Option Addr} {c5 : Nat}
    (hf : Fr (fun k => k = g) w W) (hg : g < w.heap.size) (hl : SgL W w.heap.size (.slice A L.length c) L)
    (hr : Row W5 W.heap.size 5 1 (.slice A5 sg.dat.length c5) sg.dat.length (sg.dat.map (Value.int .u8))) (ho : Ob2 W5 B g t cs' vo vi xs ys) (hf5 : Fr (fun k => k = g) W W5) (hby : Byt sg.dat) (hfp : ∀ k, Ob2F g vo vi k → k < w.heap.size) :
    ∃ xs', Row (W5.alloc (.cells #[.int .u32 sg.seq, .int .u32 sg.ack, .int .i64 sg.flags, .int .i64 sg.window, .slice A5 sg.dat.length c5] 25)) w.heap.size 25 5 (.slice A L.length c) L.length xs' ∧
      ∀ W2 A' c', Row W2 w.heap.size 25 5 (.slice A' (L.length + 1) c') (L.length + 1) (xs' ++ [.int .u32 sg.seq, .int .u32 sg.ack, .int .i64 sg.flags, .int .i64 sg.window, .slice A5 sg.dat.length c5]) → (W5.alloc (.cells #[.int .u32 sg.seq, .int .u32 sg.ack, .int .i64 sg.flags, .int .i64 sg.window, .slice A5 sg.dat.length c5] 25)).grownBy W2 (Value.slice A L.length c).ownBlock →
        Ob2 W2 B g t cs' vo vi xs ys ∧ Fr (fun k => k = g) w W2 ∧ SgL W2 w.heap.size (.slice A' (L.length + 1) c') (L ++ [sg]) := by
  have hl5 : SgL W5 w.heap.size (.slice A L.length c) L := hl.fr hf5 (fun k hk => by have hk : k = g := hk; omega)
  have hb5 : Below W5.heap.size W5 (W5.alloc (.cells #[.int .u32 sg.seq, .int .u32 sg.ack, .int .i64 sg.flags, .int .i64 sg.window, .slice A5 sg.dat.length c5] 25)) := (Below.refl _ _).alloc (Nat.le_refl _) _
  have hvk : ∀ k, (Value.slice A L.length c).ownBlock = some k → w.heap.size ≤ k := fun k hk => by
    obtain ⟨rs, e, h1, h2⟩ := hl5
    exact (h1.lt k hk).1
  refine (SgL.app hl5 hb5 (hr.base_le hf.size) hby).imp fun xs' h => ⟨h.1, fun W2 A' c' hr2 hg2 => ?_⟩
  have hfg := Fr.of_grown hg2
  refine ⟨(ho.grow hb5).keep hfg (fun k hk e => by have := hfp k hk; have := hvk k e; omega), ?_, ?_⟩
  · have h1 : Fr (fun k => k = g) w W5 := hf.trans' hf5
    have h2 : Fr (fun k => k = g) w (W5.alloc (.cells #[.int .u32 sg.seq, .int .u32 sg.ack, .int .i64 sg.flags, .int .i64 sg.window, .slice A5 sg.dat.length c5] 25)) := h1.alloc _
    exact h2.trans hfg (fun k hk e => by have := hvk k e; omega)
  · exact h.2 W2 A' c' hr2 hg2
/-! the laws of max and of min of three -/
theorem wpList_max {P : Program} (w : World) {ops : Array Oper} {rest : List Oper} {o : Oper} {a : Act} {Q : Exit → Act → World → Prop} (hgd : o.guard = none) (x y : Operand) (t u : TypeId)
    (ho : o.op = .call { callee := .builtin .max, args := #[x, y], argTypes := #[t, u] }) (p q r : Int) (hx : a.eval x = .int .i64 p) (hy : a.eval y = .int .i64 q) (hr : max p q = r)
    (h : wpList P ops Q rest (a.put o.dst (.int .i64 r)) w) : wpList P ops Q (o :: rest) a w :=
  wpList_plain hgd fun K hK => by
    subst hr
    unfold Oper.wp execOp
    by_cases hpq : p < q
    · have e : max p q = q := by omega
      simp only [ho, resolve, invoke, builtin, Sem.run_bind, Sem.run_pure, Result.andThen_ok, List.map_toArray, List.map_cons, List.map_nil, hx, hy]
      simp [Builtin.max_, Builtin.max2, hpq, go_sem]
      rw [e] at h
      exact hK _ _ h
    · have e : max p q = p := by omega
      simp only [ho, resolve, invoke, builtin, Sem.run_bind, Sem.run_pure, Result.andThen_ok, List.map_toArray, List.map_cons, List.map_nil, hx, hy]
      simp [Builtin.max_, Builtin.max2, hpq, go_sem]
      rw [e] at h
      exact hK _ _ h
theorem wpList_min3 {P : Program} (w : World) {ops : Array Oper} {rest : List Oper} {o : Oper} {a : Act} {Q : Exit → Act → World → Prop} (hgd : o.guard = none) (x y z : Operand) (t u v : TypeId)
    (ho : o.op = .call { callee := .builtin .min, args := #[x, y, z], argTypes := #[t, u, v] }) (p q r k : Int) (hx : a.eval x = .int .i64 p) (hy : a.eval y = .int .i64 q) (hz : a.eval z = .int .i64 r) (hk : min (min p q) r = k)
    (h : wpList P ops Q rest (a.put o.dst (.int .i64 k)) w) : wpList P ops Q (o :: rest) a w :=
  wpList_plain hgd fun K hK => by
    subst hk
    unfold Oper.wp execOp
    by_cases hpq : q < p
    · have e : min p q = q := by omega
      rw [e] at h
      by_cases hqr : r < q
      · have e2 : min q r = r := by omega
        rw [e2] at h
        simp only [ho, resolve, invoke, builtin, Sem.run_bind, Sem.run_pure, Result.andThen_ok, List.map_toArray, List.map_cons, List.map_nil, hx, hy, hz]
        simp [Builtin.min_, Builtin.min2, hpq, hqr, go_sem]
        exact hK _ _ h
      · have e2 : min q r = q := by omega
        rw [e2] at h
        simp only [ho, resolve, invoke, builtin, Sem.run_bind, Sem.run_pure, Result.andThen_ok, List.map_toArray, List.map_cons, List.map_nil, hx, hy, hz]
        simp [Builtin.min_, Builtin.min2, hpq, hqr, go_sem]
        exact hK _ _ h
    · have e : min p q = p := by omega
      rw [e] at h
      by_cases hqr : r < p
      · have e2 : min p r = r := by omega
        rw [e2] at h
        simp only [ho, resolve, invoke, builtin, Sem.run_bind, Sem.run_pure, Result.andThen_ok, List.map_toArray, List.map_cons, List.map_nil, hx, hy, hz]
        simp [Builtin.min_, Builtin.min2, hpq, hqr, go_sem]
        exact hK _ _ h
      · have e2 : min p r = p := by omega
        rw [e2] at h
        simp only [ho, resolve, invoke, builtin, Sem.run_bind, Sem.run_pure, Result.andThen_ok, List.map_toArray, List.map_cons, List.map_nil, hx, hy, hz]
        simp [Builtin.min_, Builtin.min2, hpq, hqr, go_sem]
        exact hK _ _ h
end Go.Proofs.Ythlhjaacjhlkhaa
