/- Locks that are slept for: what a call turns; contracts of Task and Take. -/
import Derived.Test.YtenhcpobncmedaaSeH
namespace Go.Proofs.Ytenhcpobncmedaa
open Go.RowKit Go.Maps
set_option maxHeartbeats 400000
set_option linter.unusedVariables false
set_option linter.unusedSimpArgs false
namespace LkM
variable {w w' w1 : World} {B g bp np k : Nat} {t : TypeId} {tl : List Value} {vs : Nat → Value} {s : LkS}
theorem off (h : LkM w B g bp np t tl vs s) : ¬ ArrF g 16 vs bp := fun h1 => by
  rcases h1 with h1 | ⟨i, hi, h1⟩
  · exact h.pne h1
  · exact h.pnr i hi h1
theorem setP (h : LkM w B g bp np t tl vs s) (hg : w.grownBy w' (some bp)) {np' : Nat} {P' : Int → Option Int} (hI : IntMap Try.prog w' 3 3 bp np' P') : LkM w' B g bp np' t tl vs ⟨P', s.O, s.F⟩ :=
  ⟨h.arr.keep (Fr.of_grown hg) (fun j hj e => h.off (by injection e with e; rw [e]; exact hj)), hI, h.pne, h.pnr, h.low⟩
theorem setO (h : LkM w B g bp np t tl vs s) (hk : k < 16) (x : Int) : LkM (w.setCell ⟨g, 1 + k, none⟩ (.int .i64 x)) B g bp np t tl vs ⟨s.P, updV s.O k x, s.F⟩ := by
  refine ⟨?_, h.prio.fr ((Fr.refl (fun j => j = g) w).setCell (p := ⟨g, 1 + k, none⟩) (fun _ => rfl) _) h.pne, h.pne, h.pnr, h.low⟩
  have := h.arr.set_hd (i := 1 + k) (by rw [hdO_len]; omega) (.int .i64 x)
  rwa [hdO_set hk] at this
theorem put (h : LkM w B g bp np t tl vs s) (hk : k < 16) {v : Value} {xs : List Int} (hf : Fr (fun j => (vs k).ownBlock = some j) w w1) (hr : Row w1 B 3 1 v xs.length (xs.map (Value.int .i64)))
    (ho : ∀ j, v.ownBlock = some j → (vs k).ownBlock = some j ∨ w.heap.size ≤ j) : LkM (w1.setCell ⟨g, 17 + k, none⟩ v) B g bp np t tl (updV vs k v) ⟨s.P, s.O, updV s.F k xs⟩ := by
  refine ⟨?_, (h.prio.fr hf (h.pnr k hk)).fr ((Fr.refl (fun j => j = g) w1).setCell (p := ⟨g, 17 + k, none⟩) (fun _ => rfl) _) h.pne, h.pne, fun i hi e => ?_, h.low⟩
  · have := h.arr.put hk hf hr ho
    rwa [hdO_len] at this
  · by_cases hik : i = k
    · subst hik
      rw [updV_same] at e
      rcases ho bp e with h1 | h1
      · exact h.pnr i hi h1
      · have := h.prio.lt; omega
    · rw [updV_other _ hik] at e; exact h.pnr i hi e
theorem put_fr (h : LkM w B g bp np t tl vs s) (hk : k < 16) {v : Value} (hf : Fr (fun j => (vs k).ownBlock = some j) w w1) : Fr (LkMF g bp vs) w (w1.setCell ⟨g, 17 + k, none⟩ v) :=
  (hf.mono (fun j _ hj => .inl (.inr ⟨k, hk, hj⟩))).setCell (p := ⟨g, 17 + k, none⟩) (fun _ => .inl (.inl rfl)) v
theorem put_own (h : LkM w B g bp np t tl vs s) (hk : k < 16) {v : Value} (ho : ∀ j, v.ownBlock = some j → (vs k).ownBlock = some j ∨ w.heap.size ≤ j) : ∀ j, LkMF g bp (updV vs k v) j → LkMF g bp vs j ∨ w.heap.size ≤ j := fun j hj => by
  rcases hj with hj | hj
  · rcases h.arr.put_own hk ho j hj with h1 | h1
    · exact .inl (.inl h1)
    · exact .inr h1
  · exact .inl (.inr hj)
theorem congr (h : LkM w B g bp np t tl vs s) {s' : LkS} (h1 : s.P = s'.P) (h2 : s.O = s'.O) (h3 : ∀ i, i < 16 → s.F i = s'.F i) : LkM w B g bp np t tl vs s' :=
  ⟨by rw [← h2]; exact h.arr.congr h3, by rw [← h1]; exact h.prio, h.pne, h.pnr, h.low⟩
end LkM
theorem wfor_congr {F F' : Nat → List Int} (h : ∀ i, i < 16 → F i = F' i) : wfor F = wfor F' := by
  funext t
  unfold wfor
  have : ∀ l : List Nat, (∀ i ∈ l, i < 16) → l.find? (fun i => (F i).contains t) = l.find? (fun i => (F' i).contains t) := by
    intro l
    induction l with
    | nil => intro _; rfl
    | cons a l ih =>
      intro hl
      rw [List.find?_cons, List.find?_cons, h a (hl a (by simp)), ih (fun i hi => hl i (by simp [hi]))]
  exact this _ (by simp)
theorem forM_congr {F F' : Nat → List Int} (h : ∀ i, i < 16 → F i = F' i) : forM F = forM F' := by
  funext t; unfold forM; rw [wfor_congr h]
/-- Behind a call on the program's object. -/
def LkPGo (w : World) (B g bp bf : Nat) (vs : Nat → Value) (np' nf' : Nat) (s' : LkS) (w' : World) : Prop :=
  ∃ vs', LkP w' B g bp np' bf nf' vs' s' ∧ Fr (LkPF g bp bf vs) w w' ∧ ∀ k, LkPF g bp bf vs' k → LkPF g bp bf vs k ∨ w.heap.size ≤ k
def LkMGo (w : World) (B g bp : Nat) (t : TypeId) (tl : List Value) (vs : Nat → Value) (np' : Nat) (s' : LkS) (w' : World) : Prop :=
  ∃ vs', LkM w' B g bp np' t tl vs' s' ∧ Fr (LkMF g bp vs) w w' ∧ ∀ k, LkMF g bp vs' k → LkMF g bp vs k ∨ w.heap.size ≤ k
theorem LkPGo.of_grow {w w3 w' : World} {B g bp bf np' nf' : Nat} {vs : Nat → Value} {s' : LkS} (hb : Below w.heap.size w w3) (h : LkPGo w3 B g bp bf vs np' nf' s' w') : LkPGo w B g bp bf vs np' nf' s' w' := by
  obtain ⟨vs2, a1, a2, a3⟩ := h
  refine ⟨vs2, a1, ((Fr.of_grow hb).mono (fun _ _ h => h.elim)).trans a2 (fun k _ hk => hk), fun k hk => ?_⟩
  rcases a3 k hk with h3 | h3
  · exact .inl h3
  · exact .inr (Nat.le_trans hb.size h3)
theorem LkMGo.of_grow {w w3 w' : World} {B g bp np' : Nat} {t : TypeId} {tl : List Value} {vs : Nat → Value} {s' : LkS} (hb : Below w.heap.size w w3) (h : LkMGo w3 B g bp t tl vs np' s' w') : LkMGo w B g bp t tl vs np' s' w' := by
  obtain ⟨vs2, a1, a2, a3⟩ := h
  refine ⟨vs2, a1, ((Fr.of_grow hb).mono (fun _ _ h => h.elim)).trans a2 (fun k _ hk => hk), fun k hk => ?_⟩
  rcases a3 k hk with h3 | h3
  · exact .inl h3
  · exact .inr (Nat.le_trans hb.size h3)
theorem LkPGo.same {w w' : World} {B g bp np bf nf : Nat} {vs : Nat → Value} {s : LkS} (h : LkP w B g bp np bf nf vs s) (hb : Below w.heap.size w w') : LkPGo w B g bp bf vs np nf s w' :=
  ⟨vs, h.grow hb, (Fr.of_grow hb).mono (fun _ _ h => h.elim), fun k hk => .inl hk⟩
section
variable {w : World} {B g bp np bf nf : Nat} {vs : Nat → Value} {s : LkS}
theorem LkP.setP (h : LkP w B g bp np bf nf vs s) {w' : World} (hg : w.grownBy w' (some bp)) {np' : Nat} {P' : Int → Option Int} (hI : IntMap Try.prog w' 3 3 bp np' P') : LkPGo w B g bp bf vs np' nf ⟨P', s.O, s.F⟩ w' :=
  ⟨vs, ⟨h.m.setP hg hI, h.for_.fr (Fr.of_grown hg) (fun e => h.fnp (by injection e with e; exact e.symm)), h.fne, h.fnp, h.fnr, h.flow⟩, (Fr.of_grown hg).mono (fun k _ e => by injection e with e; exact .inl (.inr e.symm)), fun k hk => .inl hk⟩
theorem LkP.setO (h : LkP w B g bp np bf nf vs s) {k : Nat} (hk : k < 16) (x : Int) : LkPGo w B g bp bf vs np nf ⟨s.P, updV s.O k x, s.F⟩ (w.setCell ⟨g, 1 + k, none⟩ (.int .i64 x)) :=
  ⟨vs, ⟨h.m.setO hk x, h.for_.fr ((Fr.refl (fun j => j = g) w).setCell (p := ⟨g, 1 + k, none⟩) (fun _ => rfl) _) h.fne, h.fne, h.fnp, h.fnr, h.flow⟩, (Fr.refl _ w).setCell (p := ⟨g, 1 + k, none⟩) (fun _ => .inl (.inl (.inl rfl))) _, fun k hk => .inl hk⟩
def taskE (t p : Int) : Int := if t < 1 ∨ 16 < t ∨ p < 0 ∨ 7 < p then 1 else 0
def taskS (s : LkS) (t p : Int) : LkS := if t < 1 ∨ 16 < t ∨ p < 0 ∨ 7 < p then s else ⟨fun z => if z = t then some p else s.P z, s.O, s.F⟩
def TaskPost (w : World) (B g bp bf np nf : Nat) (vs : Nat → Value) (er : Int) (s' : LkS) (e : Ending) (w' : World) : Prop := e = .returned (.int .i64 er) ∧ ∃ np' nf', np' ≤ np + 1 ∧ nf' ≤ nf + 1 ∧ LkPGo w B g bp bf vs np' nf' s' w'
theorem TaskPost.same {er : Int} {w' : World} (h : LkP w B g bp np bf nf vs s) (hb : Below w.heap.size w w') : TaskPost w B g bp bf np nf vs er s (.returned (.int .i64 er)) w' := ⟨rfl, np, nf, by omega, by omega, .same h hb⟩
set_option maxRecDepth 100000 in
theorem task52 (h : LkP w B g bp np bf nf vs s) (t p : Int) (hnp : np ≤ 10000000000000) :
    Calls Try.prog 52 #[.pointer (some ⟨g, 0, none⟩), .int .i64 t, .int .i64 p] w (TaskPost w B g bp bf np nf vs (taskE t p) (taskS s t p)) := by
  have HS := Lib.hid (fun er => TaskPost.same (er := er) h (Below.refl _ w))
  by_cases hbad : t < 1 ∨ 16 < t ∨ p < 0 ∨ 7 < p
  · have e1 : taskE t p = 1 := if_pos hbad
    have e2 : taskS s t p = s := if_pos hbad
    rw [e1, e2]
    clear e1 e2 h
    by_cases h1 : t < 1
    · have d1 : decide (t < 1) = true := by simpa using h1
      clear h1 hbad
      go_enter Try.func52, Try.ntmps52
      go_wp2
      go_ret
      exact HS.out 1
    have d1 : decide (t < 1) = false := by simpa using h1
    by_cases h2 : 16 < t
    · have d2 : decide (16 < t) = true := by simpa using h2
      clear h1 h2 hbad
      go_enter Try.func52, Try.ntmps52
      go_wp2
      go_ret
      exact HS.out 1
    have d2 : decide (16 < t) = false := by simpa using h2
    by_cases h3 : p < 0
    · have d3 : decide (p < 0) = true := by simpa using h3
      clear h1 h2 h3 hbad
      go_enter Try.func52, Try.ntmps52
      go_wp2
      go_ret
      exact HS.out 1
    have d3 : decide (p < 0) = false := by simpa using h3
    have d4 : decide (8 ≤ p) = true := by simp; omega
    clear h1 h2 h3 hbad
    go_enter Try.func52, Try.ntmps52
    go_wp2
    go_ret
    exact HS.out 1
  · have e1 : taskE t p = 0 := if_neg hbad
    have e2 : taskS s t p = ⟨fun z => if z = t then some p else s.P z, s.O, s.F⟩ := if_neg hbad
    rw [e1, e2]
    have d1 : decide (t < 1) = false := by simp; omega
    have d2 : decide (16 < t) = false := by simp; omega
    have d3 : decide (p < 0) = false := by simp; omega
    have d4 : decide (8 ≤ p) = false := by simp; omega
    have htw := task_wf (t := t) (by omega) (by omega)
    have hpw : (Lit.int .i64 p).wf = true := by simp [Lit.wf, IntKind.min, IntKind.max, IntKind.signed, IntKind.bits]; omega
    have hp := h.rd.hp
    obtain ⟨w2, hup, hI2, hg2⟩ := h.m.prio.update Try.underlying3 Try.underlying3 Try.underlying78 (by unfold maxLen; omega) htw hpw
    have HGO := Lib.hid (h.setP hg2 hI2)
    clear e1 e2 hbad hI2 hg2 HS h
    go_enter Try.func52, Try.ntmps52
    go_wp2
    go_ret
    exact ⟨rfl, np + 1, nf, by omega, by omega, HGO.out⟩
end
end Go.Proofs.Ytenhcpobncmedaa
