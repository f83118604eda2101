/- Pipes in memory: sixteen slots with an object each; what an operation answers. -/
import Derived.Test.YthlhjaacjhlkhaaPpA
import Derived.Test.YthlhjaacjhlkhaaOwnC
import Derived.Test.YthlhjaacjhlkhaaOpen
import Derived.Test.YthlhjaacjhlkhaaRecs
import Derived.Test.YthlhjaacjhlkhaaNear
import Derived.Test.YthlhjaacjhlkhaaFlow
import Derived.Test.YthlhjaacjhlkhaaProg
import Derived.WalkSpells
import Derived.WalkLawsBesides
import Derived.Outline
import Derived.LoopTactic
import Derived.IntWalk
import Derived.Deep.RegionLaw
import Derived.Deep.Cut
import Derived.Deep.Light
import Derived.Laws.EntriesVeiled
namespace Go.Proofs.Ythlhjaacjhlkhaa
open Go.RowKit
set_option maxHeartbeats 400000
set_option linter.unusedVariables false
set_option linter.unusedSimpArgs false
/-- What a pipe may be. -/
def Pp.ok (p : Pp) : Prop := 0 ≤ p.r ∧ p.r ≤ 64 ∧ 0 ≤ p.w ∧ p.w ≤ 64 ∧ p.bs.length ≤ 64 ∧ Byt p.bs
def Pp.at_ (p : Pp) (e : Int) : Int := if e = 0 then p.r else p.w
def Pp.add (p : Pp) (e by_ : Int) : Pp := if e = 0 then { p with r := p.r + by_ } else { p with w := p.w + by_ }
def errE (F : Fs) (id e : Int) : Int := if e ≠ 0 ∧ e ≠ 1 then 1 else match at1 F id with | none => 4 | some p => if p.at_ e = 0 then 8 else 0
def turnE (F : Fs) (id e by_ : Int) : Int := if errE F id e ≠ 0 then errE F id e else match at1 F id with | none => 0 | some p => if 64 < p.at_ e + by_ then 6 else 0
def afterP (p : Pp) : Option Pp := if p.r = 0 ∧ p.w = 0 then none else some p
def turnF (F : Fs) (id e by_ : Int) : Fs := if turnE F id e by_ ≠ 0 then F else match at1 F id with | none => F | some p => put F (id - 1).toNat (afterP (p.add e by_))
def readE (F : Fs) (id n : Int) : Int := if n < 0 ∨ 256 < n then 1 else if errE F id 0 ≠ 0 then errE F id 0 else match at1 F id with | none => 0 | some p => if 0 < n ∧ p.bs = [] ∧ 0 < p.w then 9 else 0
def readO (F : Fs) (id n : Int) : List Int := if readE F id n ≠ 0 then [] else match at1 F id with | none => [] | some p => p.bs.take n.toNat
def readF (F : Fs) (id n : Int) : Fs := if readE F id n ≠ 0 then F else match at1 F id with | none => F | some p => put F (id - 1).toNat (some { p with bs := p.bs.drop n.toNat })
def writeE (F : Fs) (id : Int) (xs : List Int) : Int := if 256 < xs.length then 1 else if errE F id 1 ≠ 0 then errE F id 1 else match at1 F id with | none => 0 | some p => if p.r = 0 then 10 else if 0 < xs.length ∧ p.bs.length = 64 then 9 else 0
def writeN (F : Fs) (id : Int) (xs : List Int) : Int := if writeE F id xs ≠ 0 then 0 else match at1 F id with | none => 0 | some p => (min xs.length (64 - p.bs.length) : Nat)
def writeF (F : Fs) (id : Int) (xs : List Int) : Fs := if writeE F id xs ≠ 0 then F else match at1 F id with | none => F | some p => put F (id - 1).toNat (some { p with bs := p.bs ++ xs.take (64 - p.bs.length) })
/-- The least slot that is free. -/
def freeAt (F : Fs) (i : Nat) : Prop := i < 16 ∧ F i = none ∧ ∀ j, j < i → F j ≠ none
def full (F : Fs) : Prop := ∀ j, j < 16 → F j ≠ none
theorem free_or (F : Fs) : full F ∨ ∃ i, freeAt F i := by
  by_cases h : full F
  · exact .inl h
  · right
    have h1 : ∃ j, j < 16 ∧ F j = none := by
      unfold full at h
      by_cases hh : ∃ j, j < 16 ∧ F j = none
      · exact hh
      · exact absurd (fun j hj hn => hh ⟨j, hj, hn⟩) h
    have key : ∀ n, (∃ j, j < n ∧ j < 16 ∧ F j = none) → ∃ i, freeAt F i := by
      intro n
      induction n with
      | zero => rintro ⟨j, hj, _⟩; omega
      | succ n ih =>
        rintro ⟨j, hj, h16, hn⟩
        by_cases hb : ∃ j', j' < n ∧ j' < 16 ∧ F j' = none
        · exact ih hb
        · have : j = n := by
            by_cases hjn : j < n
            · exact absurd ⟨j, hjn, h16, hn⟩ hb
            · omega
          subst this
          exact ⟨j, h16, hn, fun j' hj' hn' => hb ⟨j', hj', by omega, hn'⟩⟩
    obtain ⟨j, hj, hn⟩ := h1
    exact key 16 ⟨j, hj, hj, hn⟩
/-- The array of pointers. -/
def ptrA (F : Fs) (b : Nat → Nat) (i : Nat) : Value := match F i with | none => .pointer none | some _ => .pointer (some ⟨b i, 0, none⟩)
def cellsA (F : Fs) (b : Nat → Nat) : Array Value := ((List.range 16).map (ptrA F b)).toArray
theorem cellsA_at (F : Fs) (b : Nat → Nat) {i : Nat} (h : i < 16) : (cellsA F b)[i]? = some (ptrA F b i) := by
  simp [cellsA, h]
theorem cellsA_ext {F F' : Fs} {b b' : Nat → Nat} (h : ∀ j, j < 16 → ptrA F b j = ptrA F' b' j) : cellsA F b = cellsA F' b' := by
  unfold cellsA
  congr 1
  exact List.map_congr_left (fun j hj => h j (by simpa using hj))
theorem cellsA_set {F : Fs} {b b' : Nat → Nat} {i : Nat} {x : Option Pp} {u : Value} (h : i < 16) (hb : ∀ j, j ≠ i → b' j = b j) (hu : u = ptrA (put F i x) b' i) : (cellsA F b).setIfInBounds i u = cellsA (put F i x) b' := by
  subst hu
  apply Array.ext_getElem?
  intro j
  rw [Array.getElem?_setIfInBounds]
  by_cases hj : i = j
  · subst hj
    rw [if_pos rfl, cellsA_at _ _ h]
    simp [cellsA, h]
  · rw [if_neg hj]
    by_cases hj16 : j < 16
    · rw [cellsA_at _ _ hj16, cellsA_at _ _ hj16]
      unfold ptrA
      rw [put_other F (Ne.symm hj), hb j (Ne.symm hj)]
    · rw [Array.getElem?_eq_none (by simp [cellsA]; omega), Array.getElem?_eq_none (by simp [cellsA]; omega)]
/-- The pipes in memory. -/
structure Re (w : World) (B g : Nat) (F : Fs) (b : Nat → Nat) (v : Nat → Value) : Prop where
  blk : Blk w g (cellsA F b) 113
  low : B ≤ g
  ob : ∀ i p, i < 16 → F i = some p → Blk w (b i) #[.int .i64 p.r, .int .i64 p.w, v i] 118 ∧ Row w B 5 1 (v i) p.bs.length (p.bs.map (Value.int .u8)) ∧ B ≤ b i ∧ p.ok
  ne : ∀ i j p q, i < 16 → j < 16 → F i = some p → F j = some q → i ≠ j → b i ≠ b j ∧ ∀ k, (v i).ownBlock = some k → (v j).ownBlock ≠ some k
def RFt (g : Nat) (F : Fs) (b : Nat → Nat) (v : Nat → Value) (k : Nat) : Prop := k = g ∨ ∃ i p, i < 16 ∧ F i = some p ∧ (k = b i ∨ (v i).ownBlock = some k)
def RGo (w : World) (B g : Nat) (F : Fs) (b : Nat → Nat) (v : Nat → Value) (F' : Fs) (w' : World) : Prop :=
  ∃ b' v', Re w' B g F' b' v' ∧ Fr (RFt g F b v) w w' ∧ ∀ k, RFt g F' b' v' k → RFt g F b v k ∨ w.heap.size ≤ k
theorem pp_blk_ne {w : World} {g g' : Nat} {cs cs' : Array Value} {t t' : TypeId} (h : Blk w g cs t) (h' : Blk w g' cs' t') (ht : t ≠ t') : g ≠ g' := by
  rintro rfl
  unfold Blk at h h'
  rw [h] at h'
  simp at h'
  exact ht h'.2
theorem pp_row_blk {w : World} {base e size n g : Nat} {v : Value} {xs : List Value} {cs : Array Value} {t : TypeId} (h : Row w base e size v n xs) (hb : Blk w g cs t) (ht : e ≠ t) : v.ownBlock ≠ some g := by
  obtain ⟨_, h2⟩ := h
  rcases h2 with ⟨rfl, _⟩ | ⟨g', o, cap, cur, rfl, _, hblk, _⟩
  · intro e; cases e
  · intro e
    injection e with e
    subst e
    unfold Blk at hb
    rw [hblk] at hb
    simp at hb
    exact ht hb.2
namespace Re
variable {w w' : World} {B g : Nat} {F : Fs} {b : Nat → Nat} {v : Nat → Value} {i : Nat} {p p' : Pp}
theorem lowF (h : Re w B g F b v) : ∀ k, RFt g F b v k → B ≤ k := fun k hk => by
  rcases hk with rfl | ⟨i, p, hi, hp, e | e⟩
  · exact h.low
  · subst e; exact (h.ob i p hi hp).2.2.1
  · exact ((h.ob i p hi hp).2.1.lt k e).1
theorem ltF (h : Re w B g F b v) : ∀ k, RFt g F b v k → k < w.heap.size := fun k hk => by
  rcases hk with rfl | ⟨i, p, hi, hp, e | e⟩
  · exact h.blk.lt
  · subst e; exact (h.ob i p hi hp).1.lt
  · exact ((h.ob i p hi hp).2.1.lt k e).2
theorem fr {S : Nat → Prop} (h : Re w B g F b v) (hf : Fr S w w') (hS : ∀ k, RFt g F b v k → ¬ S k) : Re w' B g F b v :=
  ⟨h.blk.fr hf (hS g (.inl rfl)), h.low, fun i p hi hp => by
    obtain ⟨h1, h2, h3, h4⟩ := h.ob i p hi hp
    exact ⟨h1.fr hf (hS _ (.inr ⟨i, p, hi, hp, .inl rfl⟩)), h2.fr hf (fun k hk => hS k (.inr ⟨i, p, hi, hp, .inr hk⟩)), h3, h4⟩, h.ne⟩
theorem grow (h : Re w B g F b v) (hb : Below w.heap.size w w') : Re w' B g F b v := h.fr (Fr.of_grow hb) (fun _ _ => id)
theorem refl (h : Re w B g F b v) : RGo w B g F b v F w := ⟨b, v, h, Fr.refl _ _, fun k hk => .inl hk⟩
theorem grown (h : Re w B g F b v) (hb : Below w.heap.size w w') : RGo w B g F b v F w' := ⟨b, v, h.grow hb, (Fr.of_grow hb).mono fun _ _ e => e.elim, fun k hk => .inl hk⟩
/-- One object has turned. -/
theorem put (h : Re w B g F b v) (hi : i < 16) (hp : F i = some p) {x : Value} (hf : Fr (fun k => k = b i ∨ (v i).ownBlock = some k) w w') (hb : Blk w' (b i) #[.int .i64 p'.r, .int .i64 p'.w, x] 118) (hr : Row w' B 5 1 x p'.bs.length (p'.bs.map (Value.int .u8)))
    (ho : ∀ k, x.ownBlock = some k → (v i).ownBlock = some k ∨ w.heap.size ≤ k) (hok : p'.ok) : RGo w B g F b v (Ythlhjaacjhlkhaa.put F i (some p')) w' := by
  obtain ⟨o1, o2, o3, o4⟩ := h.ob i p hi hp
  have hgb : g ≠ b i := pp_blk_ne h.blk o1 (by decide)
  have hgv : (v i).ownBlock ≠ some g := pp_row_blk o2 h.blk (by decide)
  refine ⟨b, fun j => if j = i then x else v j, ⟨?_, h.low, fun j q hj hq => ?_, fun j j' q q' hj hj' hq hq' hne => ?_⟩, hf.mono fun k _ e => .inr ⟨i, p, hi, hp, e⟩, fun k hk => ?_⟩
  · have e : cellsA (Ythlhjaacjhlkhaa.put F i (some p')) b = cellsA F b := cellsA_ext (fun j _ => by
      unfold ptrA
      by_cases e : j = i
      · subst e; rw [put_same, hp]
      · rw [put_other F e])
    rw [e]
    exact h.blk.fr hf (fun e => by rcases e with e | e; exact hgb e; exact hgv e)
  · by_cases e : j = i
    · subst e
      rw [put_same] at hq
      injection hq with hq
      subst hq
      simp only [if_true]
      exact ⟨hb, hr, o3, hok⟩
    · rw [put_other F e] at hq
      obtain ⟨q1, q2, q3, q4⟩ := h.ob j q hj hq
      obtain ⟨n1, n2⟩ := h.ne j i q p hj hi hq hp e
      rw [if_neg e]
      refine ⟨q1.fr hf (fun e => ?_), q2.fr hf (fun k hk e => ?_), q3, q4⟩
      · rcases e with e | e
        · exact n1 e
        · exact pp_row_blk o2 q1 (by decide) e
      · rcases e with rfl | e
        · exact pp_row_blk q2 o1 (by decide) hk
        · exact n2 k hk e
  · have own : ∀ {a : Nat} {q1 : Pp}, a < 16 → Ythlhjaacjhlkhaa.put F i (some p') a = some q1 → ∃ q2, F a = some q2 := fun {a q1} ha hq => by
      by_cases e : a = i
      · subst e; exact ⟨p, hp⟩
      · rw [put_other F e] at hq; exact ⟨q1, hq⟩
    obtain ⟨r1, hr1⟩ := own hj hq
    obtain ⟨r2, hr2⟩ := own hj' hq'
    obtain ⟨n1, n2⟩ := h.ne j j' r1 r2 hj hj' hr1 hr2 hne
    refine ⟨n1, fun k hk => ?_⟩
    by_cases e : j = i
    · subst e
      rw [if_neg (Ne.symm hne)]
      rw [if_pos rfl] at hk
      rcases ho k hk with e2 | e2
      · exact n2 k e2
      · intro e3
        have := ((h.ob j' r2 hj' hr2).2.1.lt k e3).2
        omega
    · rw [if_neg e] at hk
      by_cases e' : j' = i
      · subst e'
        rw [if_pos rfl]
        intro e3
        rcases ho k e3 with e2 | e2
        · exact n2 k hk e2
        · have := ((h.ob j r1 hj hr1).2.1.lt k hk).2
          omega
      · rw [if_neg e']; exact n2 k hk
  · rcases hk with rfl | ⟨j, q, hj, hq, e⟩
    · exact .inl (.inl rfl)
    · dsimp only at e
      by_cases ej : j = i
      · subst ej
        rcases e with e | e
        · exact .inl (.inr ⟨j, p, hj, hp, .inl e⟩)
        · rw [if_pos rfl] at e
          rcases ho k e with e2 | e2
          · exact .inl (.inr ⟨j, p, hj, hp, .inr e2⟩)
          · exact .inr e2
      · rw [put_other F ej] at hq
        rw [if_neg ej] at e
        exact .inl (.inr ⟨j, q, hj, hq, e⟩)
/-- A slot is emptied. -/
theorem del (h : Re w B g F b v) (hi : i < 16) : RGo w B g F b v (Ythlhjaacjhlkhaa.put F i none) (w.setCell ⟨g, i, none⟩ (.pointer none)) := by
  have hf : Fr (fun k => k = g) w (w.setCell ⟨g, i, none⟩ (.pointer none)) := (Fr.refl (fun k => k = g) w).setCell (p := ⟨g, i, none⟩) (fun _ => rfl) _
  have sub : ∀ {a : Nat} {q1 : Pp}, Ythlhjaacjhlkhaa.put F i none a = some q1 → F a = some q1 := fun {a q1} hq => by
    by_cases e : a = i
    · subst e; rw [put_same] at hq; cases hq
    · rwa [put_other F e] at hq
  refine ⟨b, v, ⟨?_, h.low, fun j q hj hq => ?_, fun j j' q q' hj hj' hq hq' hne => h.ne j j' q q' hj hj' (sub hq) (sub hq') hne⟩, hf.mono fun k _ e => .inl e, fun k hk => ?_⟩
  · have := h.blk.set i (.pointer none)
    rwa [cellsA_set (F := F) (b := b) (b' := b) (x := none) hi (fun _ _ => rfl) (by unfold ptrA; rw [put_same])] at this
  · obtain ⟨q1, q2, q3, q4⟩ := h.ob j q hj (sub hq)
    exact ⟨q1.fr hf (pp_blk_ne q1 h.blk (by decide)), q2.fr hf (fun k hk e => pp_row_blk q2 h.blk (by decide) (e ▸ hk)), q3, q4⟩
  · rcases hk with rfl | ⟨j, q, hj, hq, e⟩
    · exact .inl (.inl rfl)
    · exact .inl (.inr ⟨j, q, hj, sub hq, e⟩)
/-- A slot is filled. -/
theorem fill (h : Re w B g F b v) (hi : i < 16) (hp : F i = none) (hB : B ≤ w.heap.size) : RGo w B g F b v (Ythlhjaacjhlkhaa.put F i (some ⟨1, 1, []⟩)) ((w.setCell ⟨g, i, none⟩ (.pointer (some ⟨w.heap.size, 0, none⟩))).alloc (.cells #[.int .i64 1, .int .i64 1, .slice none 0 0] 118)) := by
  have hgl := h.blk.lt
  rw [← World.setCell_alloc_past _ _ _ _ hgl]
  have hf : Fr (fun k => k = g) w ((w.alloc (.cells #[.int .i64 1, .int .i64 1, .slice none 0 0] 118)).setCell ⟨g, i, none⟩ (.pointer (some ⟨w.heap.size, 0, none⟩))) := ((Fr.refl (fun k => k = g) w).alloc _).setCell (p := ⟨g, i, none⟩) (fun _ => rfl) _
  have old : ∀ {a : Nat} {q1 : Pp}, a ≠ i → Ythlhjaacjhlkhaa.put F i (some ⟨1, 1, []⟩) a = some q1 → F a = some q1 := fun {a q1} e hq => by rwa [put_other F e] at hq
  refine ⟨fun j => if j = i then w.heap.size else b j, fun j => if j = i then .slice none 0 0 else v j, ⟨?_, h.low, fun j q hj hq => ?_, fun j j' q q' hj hj' hq hq' hne => ?_⟩, hf.mono fun k _ e => .inl e, fun k hk => ?_⟩
  · have := (h.blk.alloc (.cells #[.int .i64 1, .int .i64 1, .slice none 0 0] 118)).set i (.pointer (some ⟨w.heap.size, 0, none⟩))
    rwa [cellsA_set (F := F) (b := b) (b' := fun j => if j = i then w.heap.size else b j) (x := some ⟨1, 1, []⟩) hi (fun j e => by simp [e]) (by unfold ptrA; rw [put_same]; simp)] at this
  · by_cases e : j = i
    · subst e
      rw [put_same] at hq
      injection hq with hq
      subst hq
      simp only [if_true]
      refine ⟨?_, Row.nil _ _ _ _, hB, by simp [Pp.ok, Byt]⟩
      have := (Blk.new w #[.int .i64 1, .int .i64 1, .slice none 0 0] 118).set_other (p := ⟨g, j, none⟩) (by show g ≠ w.heap.size; omega) (.pointer (some ⟨w.heap.size, 0, none⟩))
      exact this
    · obtain ⟨q1, q2, q3, q4⟩ := h.ob j q hj (old e hq)
      rw [if_neg e, if_neg e]
      exact ⟨q1.fr hf (pp_blk_ne q1 h.blk (by decide)), q2.fr hf (fun k hk e => pp_row_blk q2 h.blk (by decide) (e ▸ hk)), q3, q4⟩
  · by_cases e : j = i
    · subst e
      rw [if_pos rfl, if_neg (Ne.symm hne), if_pos rfl]
      have := (h.ob j' q' hj' (old (Ne.symm hne) hq')).1.lt
      exact ⟨by omega, fun k hk => by simp [Value.ownBlock] at hk⟩
    · rw [if_neg e, if_neg e]
      have h1 := h.ob j q hj (old e hq)
      by_cases e' : j' = i
      · subst e'
        rw [if_pos rfl, if_pos rfl]
        exact ⟨by have := h1.1.lt; omega, fun k hk => by simp [Value.ownBlock]⟩
      · rw [if_neg e', if_neg e']
        exact h.ne j j' q q' hj hj' (old e hq) (old e' hq') hne
  · rcases hk with rfl | ⟨j, q, hj, hq, e⟩
    · exact .inl (.inl rfl)
    · dsimp only at e
      by_cases ej : j = i
      · subst ej
        rw [if_pos rfl, if_pos rfl] at e
        rcases e with e | e
        · exact .inr (by omega)
        · simp [Value.ownBlock] at e
      · rw [if_neg ej, if_neg ej] at e
        exact .inl (.inr ⟨j, q, hj, old ej hq, e⟩)
end Re
theorem RGo.trans {w w1 w2 : World} {B g : Nat} {F F1 F2 : Fs} {b : Nat → Nat} {v : Nat → Value} (h1 : RGo w B g F b v F1 w1) (h2 : ∀ b1 v1, Re w1 B g F1 b1 v1 → RGo w1 B g F1 b1 v1 F2 w2) : RGo w B g F b v F2 w2 := by
  obtain ⟨b1, v1, m1, f1, o1⟩ := h1
  obtain ⟨b2, v2, m2, f2, o2⟩ := h2 b1 v1 m1
  refine ⟨b2, v2, m2, f1.trans f2 (fun k hk hF => ?_), fun k hk => ?_⟩
  · rcases o1 k hF with e | e
    · exact e
    · omega
  · rcases o2 k hk with e | e
    · exact o1 k e
    · have := f1.size; exact .inr (by omega)
end Go.Proofs.Ythlhjaacjhlkhaa
