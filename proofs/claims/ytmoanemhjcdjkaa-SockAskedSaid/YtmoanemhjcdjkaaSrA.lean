/- Memory of the reference's sockets: a map from numbers to objects. -/
import Derived.Test.YtmoanemhjcdjkaaSkN
import Derived.Test.YtmoanemhjcdjkaaMapF
import Derived.Maps.RangeWalk
namespace Go.Proofs.Ytmoanemhjcdjkaa
open Go.RowKit Go.Maps
set_option maxHeartbeats 400000
set_option linter.unusedVariables false
set_option linter.unusedSimpArgs false
/-- An element of a map, told by itself. -/
def selfE (v : Value) : Option (DataW Value × List MemPlace) := some (.held v, [])
def optP (o : Option Nat) : Value := .pointer (o.map fun k => ⟨k, 0, none⟩)
theorem optP_some (k : Nat) : optP (some k) = .pointer (some ⟨k, 0, none⟩) := rfl
theorem optP_none : optP none = .pointer none := rfl
def MapSays (D : DataW Value) (f : Int → Option Nat) : Prop := ∀ x : Int, Maps.has D (.int .i64 x) = (f x).isSome ∧ D.atKey (.int .i64 x) (.held (.pointer none)) = .held (optP (f x))
/-- Block b is a map from numbers to objects. -/
def PMap (w : World) (b n : Nat) (f : Int → Option Nat) : Prop := ∃ D : DataW Value, w.ownsMap Try.prog 3 selfE b n D ∧ IsMap D ∧ MapSays D f
namespace PMap
variable {w w' : World} {b n : Nat} {f : Int → Option Nat}
theorem made (w : World) : PMap (w.alloc (.map #[] 0)) w.heap.size 0 (fun _ => none) := ⟨.map [], World.ownsMap_made w _ _ _, isMap_empty, fun x => ⟨by simp [Maps.has], by simp [DataW.atKey, optP]⟩⟩
theorem fr {S : Nat → Prop} (h : PMap w b n f) (hf : Fr S w w') (hn : ¬ S b) : PMap w' b n f := by
  obtain ⟨D, ⟨es, c, h1, h4⟩, h2⟩ := h
  exact ⟨D, ⟨es, c, (hf.block b (lt_blk h1) hn).trans h1, h4⟩, h2⟩
theorem lt (h : PMap w b n f) : b < w.heap.size := by
  obtain ⟨D, h1, _⟩ := h
  exact h1.lt
theorem ext {f' : Int → Option Nat} (h : PMap w b n f) (he : ∀ x, f x = f' x) : PMap w b n f' := by
  have : f = f' := funext he
  exact this ▸ h
theorem update (h : PMap w b n f) (hn : n < maxLen) {x : Int} (hx : (Lit.int .i64 x).wf = true) (k : Nat) :
    ∃ w', (Instr.mapUpdate 26 (.map (some b)) (.int .i64 x) (.pointer (some ⟨k, 0, none⟩))).run Try.prog w = .ok () w' ∧ PMap w' b (n + 1) (fun z => if z = x then some k else f z) ∧ w.grownBy w' (some b) := by
  obtain ⟨D, h1, h2, h3⟩ := h
  obtain ⟨w', hrun, r1, r2⟩ := h1.update (int_keyed Try.underlying3) Try.underlying26 hn (keyOf_int_mk Try.underlying3 hx) (rfl : selfE (.pointer (some ⟨k, 0, none⟩)) = some (.held (.pointer (some ⟨k, 0, none⟩)), []))
  refine ⟨w', hrun, ⟨_, r1, h2.put _ _, fun z => ?_⟩, r2⟩
  by_cases hz : z = x
  · subst hz
    rw [has_put_same h2 (by trivial), atKey_put_same h2 (by trivial)]; simp [optP]
  · have hne : Lit.int .i64 z ≠ Lit.int .i64 x := by intro e; injection e with _ e; exact hz e
    rw [has_put_other hne, atKey_put_other hne, (h3 z).1, (h3 z).2]; simp [hz]
theorem delete (h : PMap w b n f) {x : Int} (hx : (Lit.int .i64 x).wf = true) :
    ∃ w', (∀ ty, (Builtin.delete_ #[26, 3] ty #[.map (some b), .int .i64 x]).run Try.prog w = .ok (.tuple #[]) w') ∧ PMap w' b n (fun z => if z = x then none else f z) ∧ w.grownBy w' (some b) := by
  obtain ⟨D, h1, h2, h3⟩ := h
  obtain ⟨w', hrun, r1, r2⟩ := h1.drop (int_keyed Try.underlying3) Try.underlying26 (keyOf_int_mk Try.underlying3 hx) 0
  refine ⟨w', fun ty => hrun, ⟨_, r1, h2.del _, fun z => ?_⟩, r2.grown⟩
  by_cases hz : z = x
  · subst hz
    rw [has_del_same, atKey_del_same]; simp [optP]
  · have hne : Lit.int .i64 z ≠ Lit.int .i64 x := by intro e; injection e with _ e; exact hz e
    rw [has_del_other hne, atKey_del_other hne, (h3 z).1, (h3 z).2]; simp [hz]
theorem look (h : PMap w b n f) {x : Int} (hx : (Lit.int .i64 x).wf = true) : (Instr.lookup 26 (.map (some b)) (.int .i64 x) false).run Try.prog w = .ok (optP (f x)) w := by
  obtain ⟨D, h1, h2, h3⟩ := h
  obtain ⟨v, ps, hrun, hv⟩ := h1.lookup (int_keyed Try.underlying3) Try.underlying26 (by rfl : (zeroValue 61).run Try.prog w = .ok (.pointer none) w) (rfl : selfE (.pointer none) = some (.held (.pointer none), [])) (keyOf_int_mk Try.underlying3 hx)
  rw [(h3 x).2] at hv
  unfold selfE at hv
  injection hv with hv
  injection hv with hv
  injection hv with hv
  rw [hrun, hv]
theorem ne_blk {g : Nat} {cs : Array Value} {t : TypeId} (h : PMap w b n f) (hb : Blk w g cs t) : g ≠ b := by
  rintro rfl
  obtain ⟨D, ⟨es, c, h1, _⟩, _⟩ := h
  unfold Blk at hb
  rw [h1] at hb
  injection hb with hb
  cases hb
theorem ne_row {B m s : Nat} {t : TypeId} {v : Value} {xs : List Value} (h : PMap w b n f) (hr : Row w B t s v m xs) : v.ownBlock ≠ some b := by
  intro he
  obtain ⟨D, ⟨es, c, h1, _⟩, _⟩ := h
  rcases hr.2 with ⟨rfl, _⟩ | ⟨g', o, cap, cur, rfl, _, hh, _⟩
  · simp [Value.ownBlock] at he
  · have : g' = b := by simpa [Value.ownBlock] using he
    subst this
    rw [h1] at hh
    injection hh with hh
    cases hh
end PMap
/-- Where an object of the reference lies: itself, its queue. -/
structure Ml where
  b : Nat
  q : Value
def Ml.own (l : Ml) (k : Nat) : Prop := k = l.b ∨ l.q.ownBlock = some k
def Sk.rcells (p : Sk) (l : Ml) : Array Value := #[.int .i64 p.kind, .int .i64 p.port, .int .i64 p.many, .int .i64 p.peer, l.q, .string (strOfNums p.bs), .bool p.shut]
structure OneR (w : World) (B : Nat) (p : Sk) (l : Ml) : Prop where
  blk : Blk w l.b (p.rcells l) 63
  q : Row w B 3 1 l.q p.q.length (p.q.map (Value.int .i64))
  low : B ≤ l.b
  ok : p.ok
theorem OneR.lt {w : World} {B : Nat} {p : Sk} {l : Ml} (h : OneR w B p l) : ∀ k, l.own k → B ≤ k ∧ k < w.heap.size := fun k hk => by
  rcases hk with rfl | hk
  · exact ⟨h.low, h.blk.lt⟩
  · exact h.q.lt k hk
theorem OneR.fr {w w' : World} {B : Nat} {p : Sk} {l : Ml} {S : Nat → Prop} (h : OneR w B p l) (hf : Fr S w w') (hS : ∀ k, l.own k → ¬ S k) : OneR w' B p l :=
  ⟨h.blk.fr hf (hS _ (.inl rfl)), h.q.fr hf (fun k hk => hS k (.inr hk)), h.low, h.ok⟩
/-- Where the object of a number lies. -/
def pt (F : Fs) (M : Nat → Ml) (x : Int) : Option Nat := (at1 F x).map fun _ => (M (x - 1).toNat).b
theorem pt_some {F : Fs} {M : Nat → Ml} {i : Nat} {p : Sk} (hi : i < 16) (h : F i = some p) : pt F M ((i : Int) + 1) = some (M i).b := by
  unfold pt
  rw [at1_of hi, h]
  simp
theorem pt_none {F : Fs} {M : Nat → Ml} {x : Int} (h : at1 F x = none) : pt F M x = none := by
  unfold pt
  rw [h]; rfl
theorem at1_at {F : Fs} {x : Int} (h : 1 ≤ x ∧ x ≤ 16) : at1 F x = F (x - 1).toNat := by unfold at1; rw [if_pos h]
theorem at1_out {F : Fs} {x : Int} (h : ¬ (1 ≤ x ∧ x ≤ 16)) : at1 F x = none := by unfold at1; rw [if_neg h]
theorem pt_ext {F F' : Fs} {M M' : Nat → Ml} (h : ∀ i, i < 16 → (F i).map (fun _ => (M i).b) = (F' i).map fun _ => (M' i).b) : ∀ x, pt F M x = pt F' M' x := fun x => by
  unfold pt
  by_cases hx : 1 ≤ x ∧ x ≤ 16
  · rw [at1_at hx, at1_at hx]
    exact h _ (by omega)
  · rw [at1_out hx, at1_out hx]; rfl
/-- The sockets of the reference in memory. -/
structure Rr (w : World) (B b n : Nat) (F : Fs) (M : Nat → Ml) : Prop where
  map : PMap w b n (pt F M)
  low : B ≤ b
  ob : ∀ i p, i < 16 → F i = some p → OneR w B p (M i)
  ne : ∀ i j p q, i < 16 → j < 16 → F i = some p → F j = some q → i ≠ j → ∀ k, (M i).own k → ¬ (M j).own k
def TFt (b : Nat) (F : Fs) (M : Nat → Ml) (k : Nat) : Prop := k = b ∨ ∃ i p, i < 16 ∧ F i = some p ∧ (M i).own k
def TGe (w : World) (B b n : Nat) (F : Fs) (M : Nat → Ml) (n' : Nat) (F' : Fs) (M' : Nat → Ml) (w' : World) : Prop :=
  Rr w' B b n' F' M' ∧ Fr (TFt b F M) w w' ∧ ∀ k, TFt b F' M' k → TFt b F M k ∨ w.heap.size ≤ k
def TGo (w : World) (B b n : Nat) (F : Fs) (M : Nat → Ml) (F' : Fs) (w' : World) : Prop := ∃ n' M', n' ≤ n + 1 ∧ TGe w B b n F M n' F' M' w'
theorem TGe.go {w w' : World} {B b n n' : Nat} {F F' : Fs} {M M' : Nat → Ml} (h : TGe w B b n F M n' F' M' w') (hn : n' ≤ n + 1) : TGo w B b n F M F' w' := ⟨n', M', hn, h⟩
theorem TGe.trans {w w1 w2 : World} {B b n n1 n2 : Nat} {F F1 F2 : Fs} {M M1 M2 : Nat → Ml} (h1 : TGe w B b n F M n1 F1 M1 w1) (h2 : TGe w1 B b n1 F1 M1 n2 F2 M2 w2) : TGe w B b n F M n2 F2 M2 w2 := by
  obtain ⟨m1, f1, o1⟩ := h1
  obtain ⟨m2, f2, o2⟩ := h2
  refine ⟨m2, f1.trans f2 (fun k hk hF => ?_), fun k hk => ?_⟩
  · rcases o1 k hF with e | e
    · exact e
    · omega
  · rcases o2 k hk with e | e
    · exact o1 k e
    · have := f1.size; exact .inr (by omega)
def setM (M : Nat → Ml) (i : Nat) (l : Ml) : Nat → Ml := fun j => if j = i then l else M j
theorem setM_same (M : Nat → Ml) (i : Nat) (l : Ml) : setM M i l i = l := by simp [setM]
theorem setM_other (M : Nat → Ml) {i j : Nat} (h : j ≠ i) (l : Ml) : setM M i l j = M j := by simp [setM, h]
theorem setM_self (M : Nat → Ml) (i : Nat) : setM M i (M i) = M := by
  funext j
  by_cases e : j = i
  · subst e; rw [setM_same]
  · rw [setM_other _ e]
theorem wf_of {x : Int} (h : -9223372036854775808 ≤ x ∧ x ≤ 9223372036854775807) : (Lit.int .i64 x).wf = true := by
  obtain ⟨h1, h2⟩ := h
  simp [Lit.wf, IntKind.min, IntKind.max, IntKind.signed, IntKind.bits]
  omega
namespace Rr
variable {w w' : World} {B b n : Nat} {F : Fs} {M : Nat → Ml} {i : Nat} {p p' : Sk}
theorem lowF (h : Rr w B b n F M) : ∀ k, TFt b F M k → B ≤ k := fun k hk => by
  rcases hk with rfl | ⟨i, p, hi, hp, e⟩
  · exact h.low
  · exact ((h.ob i p hi hp).lt k e).1
theorem ltF (h : Rr w B b n F M) : ∀ k, TFt b F M k → k < w.heap.size := fun k hk => by
  rcases hk with rfl | ⟨i, p, hi, hp, e⟩
  · exact h.map.lt
  · exact ((h.ob i p hi hp).lt k e).2
theorem fr {S : Nat → Prop} (h : Rr w B b n F M) (hf : Fr S w w') (hS : ∀ k, TFt b F M k → ¬ S k) : Rr w' B b n F M :=
  ⟨h.map.fr hf (hS b (.inl rfl)), h.low, fun i p hi hp => (h.ob i p hi hp).fr hf (fun k hk => hS k (.inr ⟨i, p, hi, hp, hk⟩)), h.ne⟩
theorem grow (h : Rr w B b n F M) (hb : Below w.heap.size w w') : Rr w' B b n F M := h.fr (Fr.of_grow hb) (fun _ _ => id)
theorem refl_e (h : Rr w B b n F M) : TGe w B b n F M n F M w := ⟨h, Fr.refl _ _, fun k hk => .inl hk⟩
theorem refl (h : Rr w B b n F M) : TGo w B b n F M F w := h.refl_e.go (by omega)
theorem grown_e (h : Rr w B b n F M) (hb : Below w.heap.size w w') : TGe w B b n F M n F M w' := ⟨h.grow hb, (Fr.of_grow hb).mono fun _ _ e => e.elim, fun k hk => .inl hk⟩
theorem grown (h : Rr w B b n F M) (hb : Below w.heap.size w w') : TGo w B b n F M F w' := (h.grown_e hb).go (by omega)
theorem bne (h : Rr w B b n F M) (hi : i < 16) (hp : F i = some p) : ∀ k, (M i).own k → k ≠ b := fun k hk e => by
  subst e
  have o := h.ob i p hi hp
  rcases hk with e | e
  · exact h.map.ne_blk o.blk e.symm
  · exact h.map.ne_row o.q e
theorem look_some (h : Rr w B b n F M) (hi : i < 16) (hp : F i = some p) : (Instr.lookup 26 (.map (some b)) (.int .i64 ((i : Int) + 1)) false).run Try.prog w = .ok (.pointer (some ⟨(M i).b, 0, none⟩)) w := by
  have := h.map.look (x := (i : Int) + 1) (wf_of (by omega))
  rwa [pt_some hi hp, optP_some] at this
theorem look_none (h : Rr w B b n F M) {x : Int} (hx : (Lit.int .i64 x).wf = true) (ha : at1 F x = none) : (Instr.lookup 26 (.map (some b)) (.int .i64 x) false).run Try.prog w = .ok (.pointer none) w := by
  have := h.map.look hx
  rwa [pt_none ha, optP_none] at this
/-- One socket has turned. -/
theorem put_e (h : Rr w B b n F M) (hi : i < 16) (hp : F i = some p) {l : Ml} (hl : l.b = (M i).b) (hf : Fr (M i).own w w') (ho : OneR w' B p' l) (hn : ∀ k, l.own k → (M i).own k ∨ w.heap.size ≤ k) : TGe w B b n F M n (put F i (some p')) (setM M i l) w' := by
  have old : ∀ {j q}, j < 16 → j ≠ i → F j = some q → OneR w' B q (M j) := fun {j q} hj hne hq => (h.ob j q hj hq).fr hf (h.ne j i q p hj hi hq hp hne)
  have new : ∀ {j q}, j < 16 → j ≠ i → F j = some q → ∀ k, l.own k → ¬ (M j).own k := fun {j q} hj hne hq k hk e => by
    rcases hn k hk with e1 | e1
    · exact h.ne i j p q hi hj hp hq (Ne.symm hne) k e1 e
    · have := ((h.ob j q hj hq).lt k e).2; omega
  refine ⟨⟨(h.map.fr hf (fun e => h.bne hi hp b e rfl)).ext (pt_ext fun j hj => ?_), h.low, fun j q hj hq => ?_, fun j j' q q' hj hj' hq hq' hne k hk hk' => ?_⟩, hf.mono fun k _ e => .inr ⟨i, p, hi, hp, e⟩, fun k hk => ?_⟩
  · by_cases e : j = i
    · subst e
      rw [put_same, setM_same, hp, hl]; rfl
    · rw [put_other F e, setM_other M e]
  · by_cases e : j = i
    · subst e
      rw [put_same] at hq
      injection hq with hq
      subst hq
      rw [setM_same]; exact ho
    · rw [put_other F e] at hq
      rw [setM_other M e]; exact old hj e hq
  · by_cases e : j = i
    · subst e
      have e' : j' ≠ j := Ne.symm hne
      rw [setM_same] at hk
      rw [setM_other M e'] at hk'
      rw [put_other F e'] at hq'
      exact new hj' e' hq' k hk hk'
    · rw [setM_other M e] at hk
      rw [put_other F e] at hq
      by_cases e' : j' = i
      · subst e'
        rw [setM_same] at hk'
        exact new hj e hq k hk' hk
      · rw [setM_other M e'] at hk'
        rw [put_other F e'] at hq'
        exact h.ne j j' q q' hj hj' hq hq' hne k hk hk'
  · rcases hk with rfl | ⟨j, q, hj, hq, e⟩
    · exact .inl (.inl rfl)
    · by_cases ej : j = i
      · subst ej
        rw [setM_same] at e
        rcases hn k e with e1 | e1
        · exact .inl (.inr ⟨j, p, hj, hp, e1⟩)
        · exact .inr e1
      · rw [put_other F ej] at hq
        rw [setM_other M ej] at e
        exact .inl (.inr ⟨j, q, hj, hq, e⟩)
/-- Only cells of the object have turned. -/
theorem poke_e (h : Rr w B b n F M) (hi : i < 16) (hp : F i = some p) (hf : Fr (fun k => k = (M i).b) w w') (hb : Blk w' (M i).b (p'.rcells (M i)) 63) (hq : p'.q = p.q) (hok : p'.ok) : TGe w B b n F M n (put F i (some p')) M w' := by
  have o := h.ob i p hi hp
  have := h.put_e hi hp (l := M i) rfl (hf.mono fun k _ e => .inl e) ⟨hb, (by rw [hq]; exact o.q.fr hf (fun k hk e => pp_row_blk o.q o.blk (by decide) (by rw [hk, e]))), o.low, hok⟩ (fun k hk => .inl hk)
  rwa [setM_self] at this
/-- A socket's queue turns. -/
theorem turn_q (h : Rr w B b n F M) (hi : i < 16) (hp : F i = some p) {w9 : World} (hf : Fr (fun k => (M i).q.ownBlock = some k) w w9) {v : Value} {xs : List Int} (hr : Row w9 B 3 1 v xs.length (xs.map (Value.int .i64))) (ho : ∀ k, v.ownBlock = some k → (M i).q.ownBlock = some k ∨ w.heap.size ≤ k) (hok : ({ p with q := xs } : Sk).ok) :
    TGe w B b n F M n (put F i (some { p with q := xs })) (setM M i { M i with q := v }) (w9.setCell ⟨(M i).b, 4, none⟩ v) := by
  have o := h.ob i p hi hp
  have hlb := o.blk.lt
  have hqb : (M i).q.ownBlock ≠ some (M i).b := pp_row_blk o.q o.blk (by decide)
  have hvb : v.ownBlock ≠ some (M i).b := fun e => by
    rcases ho _ e with e2 | e2
    · exact hqb e2
    · omega
  refine h.put_e hi hp (l := { M i with q := v }) rfl ((hf.mono (S' := (M i).own) fun k _ e => .inr e).setCell (p := ⟨(M i).b, 4, none⟩) (fun _ => .inl rfl) v) ⟨?_, hr.setCell (p := ⟨(M i).b, 4, none⟩) hvb v, o.low, hok⟩ (fun k hk => ?_)
  · exact (o.blk.fr hf hqb).set 4 v
  · rcases hk with e | e
    · exact .inl (.inl e)
    · rcases ho k e with e | e
      · exact .inl (.inr e)
      · exact .inr e
/-- A slot is filled. -/
theorem fill_e (h : Rr w B b n F M) (hi : i < 16) (hp : F i = none) (hB : B ≤ w.heap.size) {w2 : World} (hm : PMap w2 b (n + 1) (fun z => if z = (i : Int) + 1 then some w.heap.size else pt F M z)) (hg : (w.alloc (.cells (Sk.zero.rcells ⟨w.heap.size, .slice none 0 0⟩) 63)).grownBy w2 (some b)) : TGe w B b n F M (n + 1) (put F i (some .zero)) (setM M i ⟨w.heap.size, .slice none 0 0⟩) w2 := by
  have hbl := h.map.lt
  have hf : Fr (fun k => k = b) w w2 := ((Fr.refl (fun k => k = b) w).alloc _).grown hg (fun k e _ => by injection e with e; exact e.symm)
  have old : ∀ {a : Nat} {q1 : Sk}, a ≠ i → put F i (some .zero) a = some q1 → F a = some q1 := fun {a q1} e hq => by rwa [put_other F e] at hq
  have nown : ∀ k, Ml.own ⟨w.heap.size, .slice none 0 0⟩ k → k = w.heap.size := fun k hk => by
    rcases hk with e | e
    · exact e
    · simp [Value.ownBlock] at e
  refine ⟨⟨hm.ext fun x => ?_, h.low, fun j q hj hq => ?_, fun j j' q q' hj hj' hq hq' hne k hk hk' => ?_⟩, hf.mono fun k _ e => .inl e, fun k hk => ?_⟩
  · by_cases e : x = (i : Int) + 1
    · subst e
      rw [if_pos rfl, pt_some hi (put_same F i _), setM_same]
    · rw [if_neg e]
      by_cases hx : 1 ≤ x ∧ x ≤ 16
      · unfold pt
        rw [at1_at hx, at1_at hx, put_other F (by omega), setM_other M (by omega)]
      · rw [pt_none (at1_out hx), pt_none (at1_out hx)]
  · by_cases e : j = i
    · subst e
      rw [put_same] at hq
      injection hq with hq
      subst hq
      rw [setM_same]
      exact ⟨(Blk.new w (Sk.zero.rcells ⟨w.heap.size, .slice none 0 0⟩) 63).grown hg (fun e => by injection e with e; omega), Row.nil _ _ _ _, hB, by simp [Sk.ok, Sk.zero, Byt]⟩
    · rw [setM_other M e]
      exact (h.ob j q hj (old e hq)).fr hf (fun k hk => h.bne hj (old e hq) k hk)
  · by_cases e : j = i
    · subst e
      rw [setM_same] at hk
      rw [setM_other M (Ne.symm hne)] at hk'
      have h1 := nown k hk
      have := ((h.ob j' q' hj' (old (Ne.symm hne) hq')).lt k hk').2
      omega
    · rw [setM_other M e] at hk
      by_cases e' : j' = i
      · subst e'
        rw [setM_same] at hk'
        have h1 := nown k hk'
        have := ((h.ob j q hj (old e hq)).lt k hk).2
        omega
      · rw [setM_other M e'] at hk'
        exact h.ne j j' q q' hj hj' (old e hq) (old e' hq') hne k hk hk'
  · rcases hk with rfl | ⟨j, q, hj, hq, e⟩
    · exact .inl (.inl rfl)
    · by_cases ej : j = i
      · subst ej
        rw [setM_same] at e
        have := nown k e
        exact .inr (by omega)
      · rw [setM_other M ej] at e
        exact .inl (.inr ⟨j, q, hj, old ej hq, e⟩)
/-- A slot is emptied. -/
theorem del_e (h : Rr w B b n F M) (hi : i < 16) {w2 : World} (hm : PMap w2 b n (fun z => if z = (i : Int) + 1 then none else pt F M z)) (hg : w.grownBy w2 (some b)) : TGe w B b n F M n (put F i none) M w2 := by
  have hf : Fr (fun k => k = b) w w2 := (Fr.refl (fun k => k = b) w).grown hg (fun k e _ => by injection e with e; exact e.symm)
  have sub : ∀ {a : Nat} {q1 : Sk}, put F i none a = some q1 → F a = some q1 := fun {a q1} hq => by
    by_cases e : a = i
    · subst e; rw [put_same] at hq; cases hq
    · rwa [put_other F e] at hq
  refine ⟨⟨hm.ext fun x => ?_, h.low, fun j q hj hq => (h.ob j q hj (sub hq)).fr hf (fun k hk => h.bne hj (sub hq) k hk), fun j j' q q' hj hj' hq hq' hne => h.ne j j' q q' hj hj' (sub hq) (sub hq') hne⟩, hf.mono fun k _ e => .inl e, fun k hk => ?_⟩
  · by_cases e : x = (i : Int) + 1
    · subst e
      rw [if_pos rfl]
      unfold pt
      rw [at1_of hi, put_same]; rfl
    · rw [if_neg e]
      by_cases hx : 1 ≤ x ∧ x ≤ 16
      · unfold pt
        rw [at1_at hx, at1_at hx, put_other F (by omega)]
      · rw [pt_none (at1_out hx), pt_none (at1_out hx)]
  · rcases hk with rfl | ⟨j, q, hj, hq, e⟩
    · exact .inl (.inl rfl)
    · exact .inl (.inr ⟨j, q, hj, sub hq, e⟩)
end Rr
/-- What the reference's calls answer and leave. -/
def NameQ (w : World) (B b n : Nat) (F : Fs) (M : Nat → Ml) (R : Int → Fs → Prop) (e : Ending) (w' : World) : Prop := ∃ x F', e = .returned (.int .i64 x) ∧ R x F' ∧ TGo w B b n F M F' w'
theorem nameQ {w w' : World} {B b n : Nat} {F F' : Fs} {M : Nat → Ml} {R : Int → Fs → Prop} {x : Int} (h : R x F') (h2 : TGo w B b n F M F' w') : NameQ w B b n F M R (.returned (.int .i64 x)) w' := ⟨x, F', rfl, h, h2⟩
def TwoQ (w : World) (B b n : Nat) (F : Fs) (M : Nat → Ml) (R : Int → Int → Fs → Prop) (e : Ending) (w' : World) : Prop := ∃ x y F', e = .returned (.tuple #[.int .i64 x, .int .i64 y]) ∧ R x y F' ∧ TGo w B b n F M F' w'
theorem twoQ {w w' : World} {B b n : Nat} {F F' : Fs} {M : Nat → Ml} {R : Int → Int → Fs → Prop} {x y : Int} (h : R x y F') (h2 : TGo w B b n F M F' w') : TwoQ w B b n F M R (.returned (.tuple #[.int .i64 x, .int .i64 y])) w' := ⟨x, y, F', rfl, h, h2⟩
theorem Ml.same (l : Ml) : (⟨l.b, l.q⟩ : Ml) = l := rfl
end Go.Proofs.Ytmoanemhjcdjkaa
