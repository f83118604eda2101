/- Over any program: a region that draws its order, walked operation by operation (as in Flow), where the operations may also write into blocks that S names. Printed from Flow by a small program of our own. -/
import Derived.Below
import Derived.StillTail
import Derived.WalkKit
import Derived.Laws.AppendOwn
import Derived.Test.YthlhjaacjhlkhaaOwn
set_option linter.unusedVariables false
namespace Go.FS
open Go Go.RowKit
variable {S : Nat → Prop}
/-- A property of a value in a world that lasts while memory grows and only blocks of S change. -/
structure St (S : Nat → Prop) where
  p : Value → World → Prop
  mono : ∀ v w w', p v w → Fr S w w' → p v w'
def det (c : Value) : St S := ⟨fun v _ => v = c, fun _ _ _ h _ => h⟩
def anyv : St S := ⟨fun _ _ => True, fun _ _ _ h _ => h⟩
/-- A value that leads to a block with these cells. -/
def freshSt (f : Nat → Value) (cs : List Value) : St S := ⟨fun v w => ∃ g, v = f g ∧ ¬ S g ∧ g < w.heap.size ∧ ∀ i u, cs[i]? = some u → w.cell? ⟨g, i, none⟩ = some u,
  fun _ _ _ h hg => by
    obtain ⟨g, h1, h0, h2, h3⟩ := h
    exact ⟨g, h1, h0, Nat.lt_of_lt_of_le h2 hg.size, fun i u hu => (hg.cell (p := ⟨g, i, none⟩) h2 h0).trans (h3 i u hu)⟩⟩
/-- A row of the call's own, in a block that S does not name. -/
def rowSt (base : Nat) (e : TypeId) (size n : Nat) (xs : List Value) : St S := ⟨fun v w => Row w base e size v n xs ∧ ∀ k, v.ownBlock = some k → ¬ S k,
  fun v _ _ h hg => ⟨h.1.fr hg h.2, h.2⟩⟩
namespace Flow
def at_ (L : List (St S)) (j : Nat) : (St S) := L.getD j anyv
/-- What is asked behind one operation. -/
def Post (C : World → Prop) (w : World) (df : List Deferred) (d : Option Tmp) (s : (St S)) : Exit → Act → World → Prop
  | .normal, a', w' => C w' ∧ Fr S w w' ∧ a'.defers = df ∧ match d with | some t => s.p (a'.tmps.getD t undef) w' | none => True
  | _, _, _ => False
theorem post_det {C : World → Prop} {w w' : World} {df : List Deferred} {t : Tmp} {c : Value} {a' : Act} (h1 : C w') (h2 : Fr S w w') (h3 : a'.defers = df) (h4 : a'.tmps.toList[t]? = some c) : Post C w df (some t) (det c : St S) .normal a' w' :=
  ⟨h1, h2, h3, by rw [Array.getElem?_toList] at h4; simp only [det, Array.getD_eq_getD_getElem?, h4, Option.getD_some]⟩
theorem post_st {C : World → Prop} {w w' : World} {df : List Deferred} {t : Tmp} {v : Value} {s : (St S)} {a' : Act} (h1 : C w') (h2 : Fr S w w') (h3 : a'.defers = df) (h4 : a'.tmps.toList[t]? = some v) (h5 : s.p v w') : Post C w df (some t) s .normal a' w' :=
  ⟨h1, h2, h3, by rw [Array.getElem?_toList] at h4; simp only [Array.getD_eq_getD_getElem?, h4, Option.getD_some]; exact h5⟩
/-- The slots that it sees, filled by whatever the writers left. -/
def fill (L : List (St S)) (w : World) (G : Array Value → Prop) : List (Tmp × Nat) → Array Value → Prop
  | [], fr => G fr
  | (t, j) :: r, fr => ∀ v, (at_ L j).p v w → fill L w G r (fr.setIfInBounds t v)
def steps (P : Program) (ops : Array Oper) (C : World → Prop) (L : List (St S)) (a0 : Act) : Nat → List (List (Tmp × Nat)) → List Oper → Prop
  | _, [], _ => True
  | _, _ :: _, [] => True
  | k, ts :: T, o :: l => (∀ w, C w → fill L w (fun fr => wpList P ops (Post C w a0.defers o.dst (at_ L k)) [o] ⟨fr, a0.defers⟩ w) ts a0.tmps) ∧ steps P ops C L a0 (k + 1) T l

def waits (l : List Oper) (i j : Nat) : Bool := match l[i]? with | some o => o.after.any (fun e => Region.binds .any e && e.on == j) | none => false
def dstOf (l : List Oper) (j : Nat) : Option Tmp := (l[j]?).bind (·.dst)
/-- The table fits: operation i sees slot t by operation j where the table says so; else as it was. -/
def rowOk (l : List Oper) (i : Nat) (o : Oper) (ts : List (Tmp × Nat)) : Bool :=
  ts.all (fun x => dstOf l x.2 == some x.1 && waits l i x.2) &&
  (List.range l.length).all fun j => j == i || match dstOf l j with
    | none => true
    | some d => (o.dst != some d) && (!(o.looksAt l.toArray).contains d || ts.contains (d, j) || waits l j i)
def rowsOk (l : List Oper) : Nat → List (List (Tmp × Nat)) → List Oper → Bool
  | _, [], _ => true
  | _, _ :: _, [] => false
  | k, ts :: T, o :: r => rowOk l k o ts && (match o.dst with | some d => !(o.looksAt l.toArray).contains d | none => true) && o.after.all (fun e => !Region.binds .any e || decide (e.on < k)) && rowsOk l (k + 1) T r
def listedN (n m : Nat) : Array Bool := Array.replicate n true ++ Array.replicate m false
def ok (l : List Oper) (T : List (List (Tmp × Nat))) (D : List (Tmp × Nat)) : Bool :=
  Region.noSelect l.toArray && rowsOk l 0 T l && decide (T.length ≤ l.length) && (decide (T.length = l.length) || (Region.sinkB .any l.toArray T.length && Region.chainB .any l.toArray T.length)) &&
  Region.seqB .any l.toArray (l.length - T.length) T.length (listedN T.length (l.length - T.length)) &&
  D.all (fun x => decide (x.2 < T.length) && dstOf l x.2 == some x.1) &&
  (List.range T.length).all fun j => match dstOf l j with | some d => D.contains (d, j) | none => true

structure Inv (P : Program) (l : List Oper) (N : Nat) (C : World → Prop) (L : List (St S)) (a0 : Act) (listed : Array Bool) (a : Act) (w : World) : Prop where
  head : HeadInv .any l.toArray N listed
  cls : C w
  defers : a.defers = a0.defers
  size : a.tmps.size = a0.tmps.size
  done : ∀ j d, listed.getD j false = true → dstOf l j = some d → (at_ L j).p (a.tmps.getD d undef) w
  old : ∀ t, (∀ j, listed.getD j false = true → dstOf l j ≠ some t) → a.tmps[t]? = a0.tmps[t]?

variable {P : Program} {l : List Oper} {C : World → Prop} {L : List (St S)} {a0 : Act}

theorem steps_at : ∀ (T : List (List (Tmp × Nat))) (r : List Oper) (k i : Nat) (o : Oper) (ts : List (Tmp × Nat)), steps P l.toArray C L a0 k T r → T[i]? = some ts → r[i]? = some o →
    ∀ w, C w → fill L w (fun fr => wpList P l.toArray (Post C w a0.defers o.dst (at_ L (k + i))) [o] ⟨fr, a0.defers⟩ w) ts a0.tmps
  | [], _, _, _, _, _, _, hT, _ => by simp at hT
  | _ :: _, [], _, _, _, _, _, _, hr => by simp at hr
  | ts' :: T, o' :: r, k, 0, o, ts, h, hT, hr => by
    simp only [List.getElem?_cons_zero, Option.some.injEq] at hT hr
    subst hT; subst hr
    exact h.1
  | _ :: T, _ :: r, k, i + 1, o, ts, h, hT, hr => by
    simp only [List.getElem?_cons_succ] at hT hr
    have := steps_at T r (k + 1) i o ts h.2 hT hr
    rw [show k + 1 + i = k + (i + 1) by omega] at this
    exact this
theorem rows_at : ∀ (T : List (List (Tmp × Nat))) (r : List Oper) (k i : Nat) (ts : List (Tmp × Nat)), rowsOk l k T r = true → T[i]? = some ts →
    ∃ o, r[i]? = some o ∧ rowOk l (k + i) o ts = true ∧ (∀ d, o.dst = some d → d ∉ o.looksAt l.toArray) ∧ ∀ e ∈ o.after, Region.binds .any e = true → e.on < k + i
  | [], _, _, _, _, _, hT => by simp at hT
  | _ :: _, [], _, _, _, h, _ => by simp [rowsOk] at h
  | ts' :: T, o' :: r, k, 0, ts, h, hT => by
    simp only [List.getElem?_cons_zero, Option.some.injEq] at hT
    subst hT
    simp only [rowsOk, Bool.and_eq_true] at h
    refine ⟨o', rfl, h.1.1.1, fun d hd => ?_, fun e he hb => ?_⟩
    · have := h.1.1.2
      rw [hd] at this
      simpa using this
    · have := Array.all_eq_true_iff_forall_mem.1 h.1.2 e he
      simpa [hb] using this
  | _ :: T, _ :: r, k, i + 1, ts, h, hT => by
    simp only [List.getElem?_cons_succ] at hT
    simp only [rowsOk, Bool.and_eq_true] at h
    obtain ⟨o, h1, h2, h3, h4⟩ := rows_at T r (k + 1) i ts h.2 hT
    rw [show k + 1 + i = k + (i + 1) by omega] at h2 h4
    exact ⟨o, by simpa using h1, h2, h3, h4⟩
/-- From the frame at hand to the frame of the small walk: the seen slots agree. -/
theorem fill_spec {w : World} {G : Array Value → Prop} {a : Act} : ∀ (ts : List (Tmp × Nat)) (fr : Array Value), fill L w G ts fr → fr.size = a.tmps.size →
    (∀ x ∈ ts, (at_ L x.2).p (a.tmps.getD x.1 undef) w) → ∃ fr', G fr' ∧ fr'.size = fr.size ∧ (∀ x ∈ ts, fr'[x.1]? = a.tmps[x.1]?) ∧ ∀ t, (fr'[t]? = fr[t]? ∨ fr'[t]? = a.tmps[t]?) ∧ ((∀ x ∈ ts, x.1 ≠ t) → fr'[t]? = fr[t]?)
  | [], fr, h, _, _ => ⟨fr, h, rfl, fun x hx => by simp at hx, fun t => ⟨.inl rfl, fun _ => rfl⟩⟩
  | (t, j) :: r, fr, h, hsz, hx => by
    have h1 := h _ (hx (t, j) (by simp))
    obtain ⟨fr', g, hs, ha, hb⟩ := fill_spec r _ h1 (by simpa using hsz) (fun x h' => hx x (by simp [h']))
    have hset : ∀ u, (fr.setIfInBounds t (a.tmps.getD t undef))[u]? = if u = t then a.tmps[t]? else fr[u]? := by
      intro u
      rw [Array.getElem?_setIfInBounds]
      by_cases e : t = u
      · subst e
        simp only [if_true]
        split
        · rename_i hlt
          have this : t < a.tmps.size := Nat.lt_of_lt_of_eq hlt hsz
          simp [this]
        · rename_i hlt
          have hlt' : ¬ t < fr.size := hlt
          have hsz' : fr.size = a.tmps.size := hsz
          exact (Array.getElem?_eq_none (by omega)).symm
      · rw [if_neg e, if_neg (fun h => e h.symm)]
    refine ⟨fr', g, by simpa using hs, fun x hx' => ?_, fun u => ⟨?_, fun hn => ?_⟩⟩
    · rcases List.mem_cons.1 hx' with rfl | hm
      · rcases (hb t).1 with h2 | h2
        · rw [h2, hset, if_pos rfl]
        · exact h2
      · exact ha x hm
    · rcases (hb u).1 with h2 | h2
      · rw [hset] at h2
        by_cases e : u = t
        · subst e; rw [if_pos rfl] at h2; exact .inr h2
        · rw [if_neg e] at h2; exact .inl h2
      · exact .inr h2
    · rw [(hb u).2 (fun x h' => hn x (by simp [h'])), hset, if_neg (fun e => hn (t, j) (by simp) e.symm)]

theorem cnt_set {N i : Nat} {p q : Nat → Bool} (hi : i < N) (hp : p i = true) (hq : q i = false) (h : ∀ j, j ≠ i → p j = q j) : (List.range N).countP p = (List.range N).countP q + 1 := by
  induction N with
  | zero => omega
  | succ N ih =>
    rw [List.range_succ, List.countP_append, List.countP_append]
    by_cases e : i = N
    · subst e
      have : (List.range i).countP p = (List.range i).countP q := List.countP_congr fun j hj => by rw [h j (by have := List.mem_range.1 hj; omega)]
      simp [this, hp, hq]
    · have := ih (by omega)
      rw [this, List.countP_singleton, List.countP_singleton, h N (by omega)]
      omega
def cnt (N : Nat) (listed : Array Bool) : Nat := (List.range N).countP fun i => !listed.getD i false

theorem Post.upon {Q : Exit → Act → World → Prop} {K : Act → World → Prop} {o : Oper} {a b : Act} {w : World} {s : (St S)} (hd : b.defers = a0.defers)
    (hK : ∀ v w', C w' → Fr S w w' → (∀ t, o.dst = some t → s.p ((b.put (some t) v).tmps.getD t undef) w') → K (a.put o.dst v) w') :
    ∀ r : Result Next, o.upon P b (wpList P l.toArray (Post C w a0.defers o.dst s) []) (Post C w a0.defers o.dst s) r → o.upon P a K Q r := by
  have key : ∀ v w', wpList P l.toArray (Post C w a0.defers o.dst s) [] (b.put o.dst v) w' → K (a.put o.dst v) w' := fun v w' h => by
    obtain ⟨h1, h2, _, h4⟩ := h
    refine hK v w' h1 h2 fun t ht => ?_
    rw [ht] at h4
    exact h4
  intro r h
  cases r with
  | ok n w' =>
    cases n <;> simp only [Oper.upon] at h ⊢
    case value v => exact key v w' h
    case skip => exact key _ w' h
    case defer d =>
      obtain ⟨_, _, h3, _⟩ := h
      exfalso
      have : (({ b with defers := d :: b.defers } : Act).put o.dst undef).defers = d :: b.defers := by cases o.dst <;> rfl
      rw [this, hd] at h3
      have := congrArg List.length h3
      simp at this
    case enter f args =>
      refine Calls.mono h fun e w'' he => ?_
      cases e with
      | returned v => exact key v w'' he
      | panicked c => exact (he : False).elim
      | outgrown => exact (let ⟨_, _, hh⟩ := he; (hh : False).elim)
    case row row args => exact Rows.mono h fun v w'' he => key v w'' he
  | halt x w' =>
    cases x <;> simp only [Oper.upon] at h ⊢
    case panic v => exact (h : False).elim

theorem any_of_inv {Q : Exit → Act → World → Prop} {T : List (List (Tmp × Nat))} {D : List (Tmp × Nat)} (hok : ok l T D = true) (hsz : ∀ j d, dstOf l j = some d → d < a0.tmps.size)
    (hst : steps P l.toArray C L a0 0 T l)
    (htail : ∀ (a : Act) (w : World), C w → a.defers = a0.defers → a.tmps.size = a0.tmps.size → (∀ x ∈ D, (at_ L x.2).p (a.tmps.getD x.1 undef) w) → (∀ t, (∀ x ∈ D, x.1 ≠ t) → a.tmps[t]? = a0.tmps[t]?) →
      wpList P l.toArray Q (l.drop T.length) a w) :
    ∀ (m : Nat) (listed : Array Bool) (a : Act) (w : World), cnt T.length listed = m → Inv P l T.length C L a0 listed a w → wpAny P .any l.toArray Q (m + (l.length - T.length)) listed a w := by
  simp only [ok, Bool.and_eq_true, decide_eq_true_eq, Bool.or_eq_true] at hok
  obtain ⟨⟨⟨⟨⟨⟨hsel, hrows⟩, hTl⟩, hsink⟩, hseq⟩, hD1⟩, hD2⟩ := hok
  intro m
  induction m with
  | zero =>
    intro listed a w hc inv
    have hall : ∀ i, i < T.length → listed.getD i false = true := fun i hi => by
      have := List.countP_eq_zero.1 hc i (List.mem_range.2 hi)
      simpa using this
    have hle : listed = listedN T.length (l.length - T.length) := by
      have hs := inv.head.size
      refine Array.ext (by simp [listedN]; simp at hs; omega) fun i h1 h2 => ?_
      by_cases hi : i < T.length
      · have := hall i hi
        simp [h1] at this
        simp [listedN, hi, this]
      · have := inv.head.tail i (by omega) (by simp at hs; simp; omega)
        simp [h1] at this
        simp [listedN, Array.getElem_append, hi, this]
    subst hle
    rw [Nat.zero_add, ← List.length_drop]
    refine wpAny_of_seq (l.drop T.length) T.length _ a w (fun j => by simp) (by rw [List.length_drop]; exact hseq) (htail a w inv.cls inv.defers inv.size (fun x hx => ?_) fun t ht => ?_)
    · have := List.all_eq_true.1 hD1 x hx
      simp only [Bool.and_eq_true, decide_eq_true_eq, beq_iff_eq] at this
      exact inv.done x.2 x.1 (hall _ this.1) this.2
    · refine inv.old t fun j hj e => ?_
      have hjT : j < T.length := by
        rcases Nat.lt_or_ge j T.length with h | h
        · exact h
        · have hjl : j < l.length := by
            rcases Nat.lt_or_ge j l.length with h' | h'
            · exact h'
            · simp [dstOf, List.getElem?_eq_none h'] at e
          have := getD_both (inv.head.tail j h (by simpa using hjl))
          rw [this] at hj; cases hj
      have := List.all_eq_true.1 hD2 j (List.mem_range.2 hjT)
      rw [e] at this
      exact ht (t, j) (by simpa using this) rfl
  | succ m ih =>
    intro listed a w hc inv
    rw [show m + 1 + (l.length - T.length) = (m + (l.length - T.length)) + 1 by omega]
    have hls : listed.size = l.length := by simpa using inv.head.size
    refine ⟨fun hnil => ?_, fun i hi => ?_⟩
    · exfalso
      -- the first that has not come up is ready
      have hex : ∃ i, i < T.length ∧ listed.getD i false = false := by
        rcases Classical.em (∃ i, i < T.length ∧ listed.getD i false = false) with h | h
        · exact h
        · exfalso
          have : cnt T.length listed = 0 := List.countP_eq_zero.2 fun i hi => by
            have : listed.getD i false = true := by
              cases hh : listed.getD i false with
              | true => rfl
              | false => exact absurd ⟨i, List.mem_range.1 hi, hh⟩ h
            rw [this]; simp
          omega
      have hmin : ∀ n i, i ≤ n → i < T.length → listed.getD i false = false → False := by
        intro n
        induction n using Nat.strongRecOn with
        | _ n ihn =>
          intro i hin hiT hun
          obtain ⟨o, ho, hro, _, hlt⟩ := rows_at T l 0 i T[i] hrows (List.getElem?_eq_getElem hiT)
          rw [Nat.zero_add] at hlt hro
          have : i ∈ Region.ready .any l.toArray listed := mem_ready.2 ⟨getD_in (by omega) hun, o, by simpa using ho, fun e he hb => by
            cases hh : listed.getD e.on false with
            | true => rfl
            | false => exact absurd hh (fun hh => ihn e.on (by have := hlt e he hb; omega) e.on (Nat.le_refl _) (by have := hlt e he hb; omega) hh)⟩
          rw [hnil] at this
          cases this
      obtain ⟨i, h1, h2⟩ := hex
      exact hmin i i (Nat.le_refl _) h1 h2
    · obtain ⟨hun, o, ho', hall⟩ := mem_ready.1 hi
      have hiT : i < T.length := by
        rcases Nat.lt_or_ge i T.length with h | h
        · exact h
        · exfalso
          have hil : i < l.length := by simpa using (Array.getElem?_eq_some_iff.1 ho').1
          rcases hsink with hs | hs
          · omega
          · have hex : ∃ i, i < T.length ∧ listed.getD i false = false := by
              rcases Classical.em (∃ i, i < T.length ∧ listed.getD i false = false) with h | h
              · exact h
              · exfalso
                have : cnt T.length listed = 0 := List.countP_eq_zero.2 fun i hi => by
                  have : listed.getD i false = true := by
                    cases hh : listed.getD i false with
                    | true => rfl
                    | false => exact absurd ⟨i, List.mem_range.1 hi, hh⟩ h
                  rw [this]; simp
                omega
            obtain ⟨k, hk, hku⟩ := hex
            exact tail_waits hs.1 hs.2 (by simp; omega) inv.head _ k rfl hk (getD_in (by omega) hku) i h hi
      obtain ⟨o2, ho, hro, hown, hlt⟩ := rows_at T l 0 i T[i] hrows (List.getElem?_eq_getElem hiT)
      have : o2 = o := by have := ho.symm.trans (by simpa using ho'); simpa using this
      subst this
      rw [Nat.zero_add] at hro hlt
      simp only [rowOk, Bool.and_eq_true, List.all_eq_true] at hro
      have hstep := steps_at T l 0 i o2 T[i] hst (List.getElem?_eq_getElem hiT) ho w inv.cls
      rw [Nat.zero_add] at hstep
      have hsee : ∀ x ∈ T[i], (at_ L x.2).p (a.tmps.getD x.1 undef) w := fun x hx => by
        have := hro.1 x hx
        simp only [beq_iff_eq, waits] at this
        rw [ho] at this
        obtain ⟨e, he, hb⟩ := Array.any_eq_true'.1 this.2
        simp only [Bool.and_eq_true, beq_iff_eq] at hb
        exact inv.done x.2 x.1 (by rw [← hb.2]; exact hall e he hb.1) this.1
      obtain ⟨fr, hw, hfs, hfa, hfb⟩ := fill_spec (a := a) T[i] a0.tmps hstep inv.size.symm hsee
      -- the two frames agree on what the operation looks at
      have hagree : ∀ t ∈ o2.looksAt l.toArray, fr[t]? = a.tmps[t]? := fun t ht => by
        by_cases hin : ∃ x ∈ T[i], x.1 = t
        · obtain ⟨x, hx, rfl⟩ := hin
          exact hfa x hx
        · have hn : ∀ x ∈ T[i], x.1 ≠ t := fun x hx e => hin ⟨x, hx, e⟩
          rw [(hfb t).2 hn]
          refine (inv.old t fun j hj e => ?_).symm
          have hji : j ≠ i := fun e' => by subst e'; rw [getD_both hun] at hj; cases hj
          have hjl : j < l.length := by
            rcases Nat.lt_or_ge j l.length with h' | h'
            · exact h'
            · simp [dstOf, List.getElem?_eq_none h'] at e
          have h2 := hro.2 j (List.mem_range.2 hjl)
          rw [e] at h2
          simp only [Bool.or_eq_true, beq_iff_eq, hji, false_or, Bool.and_eq_true] at h2
          rcases h2.2 with (h3 | h3) | h3
          · simp [ht] at h3
          · exact hn (t, j) (by simpa using h3) rfl
          · unfold waits at h3
            cases hlj : l[j]? with
            | none => rw [hlj] at h3; cases h3
            | some oj =>
              rw [hlj] at h3
              obtain ⟨e', he', hb⟩ := Array.any_eq_true'.1 h3
              simp only [Bool.and_eq_true, beq_iff_eq] at hb
              have := inv.head.closed j oj (by simpa using hlj) hj e' he' hb.1
              rw [hb.2, getD_both hun] at this
              cases this
      have hsel' : ∀ cs b, o2.op ≠ .select cs b := fun cs b => Region.noSelect_spec hsel i o2 cs b ho'
      have hexec : execOp (Act.mk fr a0.defers).eval o2 = execOp a.eval o2 := execOp_congr o2 hsel' fun x hx => by
        cases x with
        | tmp t =>
          have := hagree t (List.mem_append_left _ (List.mem_filterMap.2 ⟨.tmp t, by simpa using hx, rfl⟩))
          simp only [Act.eval, Array.getD_eq_getD_getElem?, this]
        | _ => rfl
      have hwant : Region.wanted o2 (yielded l.toArray fr) = Region.wanted o2 (yielded l.toArray a.tmps) := by
        unfold Region.wanted
        cases hg : o2.guard with
        | none => rfl
        | some gw =>
          obtain ⟨g, want⟩ := gw
          have hy : yielded l.toArray fr g = yielded l.toArray a.tmps g := by
            unfold yielded
            cases ht : (l.toArray[g]?).bind (·.dst) with
            | none => rfl
            | some t =>
              have := hagree t (by unfold Oper.looksAt; rw [hg]; simp only [ht]; simp)
              simp only [Option.bind_some, this]
          simp only [hy]
      -- the state behind the operation
      have hback : ∀ v w', C w' → Fr S w w' → (∀ t, o2.dst = some t → (at_ L i).p (((Act.mk fr a0.defers).put (some t) v).tmps.getD t undef) w') →
          wpAny P .any l.toArray Q (m + (l.length - T.length)) (listed.setIfInBounds i true) (a.put o2.dst v) w' := fun v w' hCw hg hv => by
        have hput : ∀ d, o2.dst = some d → d < a0.tmps.size := fun d hd => hsz i d (by simp [dstOf, ho, hd])
        refine ih _ _ w' ?_ ⟨inv.head.set hi hiT, hCw, ?_, ?_, fun j d hj hd => ?_, fun t ht => ?_⟩
        · have := cnt_set (N := T.length) (i := i) (p := fun k => !listed.getD k false) (q := fun k => !(listed.setIfInBounds i true).getD k false) hiT (by rw [getD_both hun]; rfl)
            (by have : i < listed.size := by omega
                simp [this]) (fun j hj => by rw [getD_set_ne false (Ne.symm hj)])
          unfold cnt at hc ⊢
          omega
        · cases hdst : o2.dst <;> simp [Act.put, inv.defers]
        · cases hdst : o2.dst <;> simp [Act.put, inv.size]
        · by_cases hji : j = i
          · subst hji
            have hd' : o2.dst = some d := by simpa [dstOf, ho] using hd
            have := hv d hd'
            have hlt := hput d hd'
            have hlt2 : d < a.tmps.size := by rw [inv.size]; exact hlt
            have hlt3 : d < fr.size := by rw [hfs]; exact hlt
            rw [hd']
            simp [Act.put, hlt2, hlt3] at this ⊢
            exact this
          · rw [getD_set_ne false (Ne.symm hji)] at hj
            have h1 := (at_ L j).mono _ _ _ (inv.done j d hj hd) hg
            have hne : o2.dst ≠ some d := fun e => by
              have hjl : j < l.length := by
                rcases Nat.lt_or_ge j l.length with h' | h'
                · exact h'
                · simp [dstOf, List.getElem?_eq_none h'] at hd
              have h2 := hro.2 j (List.mem_range.2 hjl)
              rw [hd] at h2
              simp [hji, e] at h2
            cases hdst : o2.dst with
            | none => exact h1
            | some d' =>
              have hdd : d' ≠ d := fun e => hne (by rw [hdst, e])
              simpa [Act.put, Array.getElem?_setIfInBounds_ne hdd] using h1
        · have hne : o2.dst ≠ some t := fun e => ht i (by
            have : i < listed.size := by omega
            simp [this]) (by simp [dstOf, ho, e])
          have h1 := inv.old t fun j hj => ht j (getD_set_true hj)
          cases hdst : o2.dst with
          | none => exact h1
          | some d' =>
            have hdd : d' ≠ t := fun e => hne (by rw [hdst, e])
            simpa [Act.put, Array.getElem?_setIfInBounds_ne hdd] using h1
      unfold wpOp
      rw [ho']
      simp only
      unfold wpList at hw
      simp only at hw
      rw [hwant] at hw
      split
      · rename_i hwt
        rw [if_pos hwt] at hw
        rcases hw with hw | ⟨_, hw⟩
        · refine .inl ?_
          unfold Oper.wp at hw ⊢
          rw [hexec] at hw
          exact Post.upon (a0 := a0) (b := ⟨fr, a0.defers⟩) rfl hback _ hw
        · obtain ⟨_, _, hh⟩ := hw
          exact (hh : False).elim
      · rename_i hwt
        rw [if_neg hwt] at hw
        obtain ⟨h1, h2, _, h4⟩ := hw
        refine hback undef w h1 h2 fun t ht => ?_
        rw [ht] at h4
        exact h4
/-- What stands behind the flow: the slots that it wrote hold what it left. -/
def after (L : List (St S)) (G : Array Value → World → Prop) (w : World) : List (Tmp × Nat) → Array Value → Prop
  | [], fr => G fr w
  | (t, j) :: r, fr => ∀ v, (at_ L j).p v w → after L G w r (fr.setIfInBounds t v)
theorem after_spec {w : World} {G : Array Value → World → Prop} {a : Act} : ∀ (D : List (Tmp × Nat)) (fr : Array Value), after L G w D fr → fr.size = a.tmps.size →
    (∀ x ∈ D, (at_ L x.2).p (a.tmps.getD x.1 undef) w) → (∀ t, (∀ x ∈ D, x.1 ≠ t) → a.tmps[t]? = fr[t]?) → G a.tmps w
  | [], fr, h, hsz, _, ho => by
    have : a.tmps = fr := Array.ext_getElem? fun t => ho t (fun x hx => by simp at hx)
    rw [this]; exact h
  | (t, j) :: r, fr, h, hsz, hx, ho => by
    refine after_spec r _ (h _ (hx (t, j) (by simp))) (by simpa using hsz) (fun x h' => hx x (by simp [h'])) fun u hu => ?_
    rw [Array.getElem?_setIfInBounds]
    by_cases e : t = u
    · subst e
      rw [if_pos rfl]
      split
      · rename_i hlt
        have this : t < a.tmps.size := Nat.lt_of_lt_of_eq hlt hsz
        simp [this]
      · rename_i hlt
        have hlt' : ¬ t < fr.size := hlt
        have hsz' : fr.size = a.tmps.size := hsz
        exact Array.getElem?_eq_none (by omega)
    · rw [if_neg e]
      exact ho u fun x hx' => by
        rcases List.mem_cons.1 hx' with rfl | hm
        · exact e
        · exact hu x hm

/-- The operations one by one, each with a property of what it leaves, chosen as it comes. -/
def walk (P : Program) (ops : Array Oper) (C : World → Prop) (a0 : Act) (F : List (St S) → Prop) : List (List (Tmp × Nat)) → List Oper → List (St S) → Prop
  | [], _, L => F L
  | _ :: _, [], _ => False
  | ts :: T, o :: l, L => ∃ s : (St S), (∀ w, C w → fill L w (fun fr => wpList P ops (Post C w a0.defers o.dst s) [o] ⟨fr, a0.defers⟩ w) ts a0.tmps) ∧ walk P ops C a0 F T l (L ++ [s])
theorem fill_mono {w : World} {G : Array Value → Prop} {L L' : List (St S)} (h : ∀ j v, (at_ L' j).p v w → (at_ L j).p v w) : ∀ (ts : List (Tmp × Nat)) (fr : Array Value), fill L w G ts fr → fill L' w G ts fr
  | [], _, hf => hf
  | (_, j) :: r, _, hf => fun v hv => fill_mono h r _ (hf v (h j v hv))
theorem walk_spec {ops : Array Oper} {F : List (St S) → Prop} : ∀ (T : List (List (Tmp × Nat))) (r : List Oper) (L0 : List (St S)) (k : Nat), L0.length = k → walk P ops C a0 F T r L0 → ∃ L1, steps P ops C (L0 ++ L1) a0 k T r ∧ F (L0 ++ L1)
  | [], _, L0, k, _, h => ⟨[], by simp [steps], by simpa [walk] using h⟩
  | _ :: _, [], _, _, _, h => (h : False).elim
  | ts :: T, o :: r, L0, k, hk, h => by
    obtain ⟨s, h1, h2⟩ := h
    obtain ⟨L1, h3, h4⟩ := walk_spec T r (L0 ++ [s]) (k + 1) (by simp [hk]) h2
    refine ⟨s :: L1, ?_, by simpa using h4⟩
    rw [List.append_assoc, List.singleton_append] at h3
    refine ⟨fun w hw => ?_, h3⟩
    have hs : at_ (L0 ++ s :: L1) k = s := by
      unfold at_
      simp [List.getD, hk]
    rw [hs]
    refine fill_mono (fun j v hv => ?_) ts _ (h1 w hw)
    by_cases hj : j < L0.length
    · have e : at_ (L0 ++ s :: L1) j = at_ L0 j := by
        unfold at_
        simp [List.getD, List.getElem?_append, hj]
      rwa [e] at hv
    · have : at_ L0 j = anyv := by
        unfold at_
        simp [List.getD, List.getElem?_eq_none (by omega : L0.length ≤ j)]
      rw [this]; trivial
theorem det_step {ops : Array Oper} {F : List (St S) → Prop} {ts : List (Tmp × Nat)} {T : List (List (Tmp × Nat))} {o : Oper} {r : List Oper} {L0 : List (St S)} {c : Value}
    (h : ∀ w, C w → fill L0 w (fun fr => wpList P ops (Post C w a0.defers o.dst (det c : St S)) [o] ⟨fr, a0.defers⟩ w) ts a0.tmps) (h2 : walk P ops C a0 F T r (L0 ++ [(det c : St S)])) : walk P ops C a0 F (ts :: T) (o :: r) L0 := ⟨det c, h, h2⟩
theorem st_step {ops : Array Oper} {F : List (St S) → Prop} {ts : List (Tmp × Nat)} {T : List (List (Tmp × Nat))} {o : Oper} {r : List Oper} {L0 : List (St S)} (s : (St S))
    (h : ∀ w, C w → fill L0 w (fun fr => wpList P ops (Post C w a0.defers o.dst s) [o] ⟨fr, a0.defers⟩ w) ts a0.tmps) (h2 : walk P ops C a0 F T r (L0 ++ [s])) : walk P ops C a0 F (ts :: T) (o :: r) L0 := ⟨s, h, h2⟩
end Flow
/-- A region that draws its order, operation by operation. -/
theorem wp_region_flow {P : Program} {id : Nat} {Q : Exit → Act → World → Prop} {a : Act} {w : World} {l : List Oper} (C : World → Prop) (T : List (List (Tmp × Nat))) (D : List (Tmp × Nat)) (L : List (St S))
    (hm : P.follows .mixedOrders = true) (hok : Flow.ok l T D = true) (hsz : (l.all fun o => match o.dst with | some d => decide (d < a.tmps.size) | none => true) = true) (hC : C w.drew)
    (hst : Flow.steps P l.toArray C L a 0 T l)
    (htail : ∀ w', C w' → Flow.after L (fun fr w'' => wpList P l.toArray Q (l.drop T.length) ⟨fr, a.defers⟩ w'') w' D a.tmps) : (Code.region id l.toArray true).wp P Q a w := by
  have hTl : T.length ≤ l.length := by
    simp only [Flow.ok, Bool.and_eq_true, decide_eq_true_eq] at hok
    exact hok.1.1.1.1.2
  refine wp_region_any hm ?_
  have h := Flow.any_of_inv (P := P) (C := C) (L := L) (a0 := a) (Q := Q) hok (fun j d hd => ?_) hst (fun a' w' hCw hdf hs hx ho => ?_) T.length (Array.replicate l.toArray.size false) a { w with drawn := w.drawn + 1 } ?_ ?_
  · simpa [Nat.add_sub_cancel' hTl] using h
  · have : ∃ o, l[j]? = some o ∧ o.dst = some d := by
      unfold Flow.dstOf at hd
      cases hl : l[j]? with
      | none => simp [hl] at hd
      | some o => exact ⟨o, rfl, by simpa [hl] using hd⟩
    obtain ⟨o, ho, hd'⟩ := this
    have := List.all_eq_true.1 hsz o (List.mem_of_getElem? ho)
    rw [hd'] at this
    simpa using this
  · have := Flow.after_spec (a := a') D a.tmps (htail w' hCw) hs.symm hx ho
    have e : a' = ⟨a'.tmps, a.defers⟩ := by cases a'; simp_all
    rw [e]
    exact this
  · unfold Flow.cnt
    rw [List.countP_eq_length.2 (fun i _ => by rw [getD_replicate_false]; rfl), List.length_range]
  · exact ⟨⟨by simp, fun j oj _ hl => (by rw [getD_replicate_false] at hl; cases hl), fun t _ ht => getD_in (by simpa using ht) (getD_replicate_false _ _)⟩, hC, rfl, rfl,
      fun j d hj => (by rw [getD_replicate_false] at hj; cases hj), fun t _ => rfl⟩

/-- The same, the properties chosen one by one. -/
theorem wp_region_walk (S : Nat → Prop) {P : Program} {id : Nat} {Q : Exit → Act → World → Prop} {a : Act} {w : World} {l : List Oper} (C : World → Prop) (T : List (List (Tmp × Nat))) (D : List (Tmp × Nat))
    (hm : P.follows .mixedOrders = true) (hok : Flow.ok l T D = true) (hsz : (l.all fun o => match o.dst with | some d => decide (d < a.tmps.size) | none => true) = true) (hC : C w.drew)
    (h : Flow.walk P l.toArray C a (fun (L : List (St S)) => ∀ w', C w' → Flow.after L (fun fr w'' => wpList P l.toArray Q (l.drop T.length) ⟨fr, a.defers⟩ w'') w' D a.tmps) T l []) : (Code.region id l.toArray true).wp P Q a w := by
  obtain ⟨L, h1, h2⟩ := Flow.walk_spec T l [] 0 rfl h
  rw [List.nil_append] at h1 h2
  exact wp_region_flow C T D L hm hok hsz hC h1 h2
end Go.FS
