/- Sockets in memory: sixteen slots with an object each, and two slices of its own. -/
import Derived.Test.YtmoanemhjcdjkaaSkA
import Derived.Test.YtmoanemhjcdjkaaOwnC
import Derived.Test.YtmoanemhjcdjkaaOpen
import Derived.Test.YtmoanemhjcdjkaaRecs
import Derived.Test.YtmoanemhjcdjkaaNear
import Derived.Test.YtmoanemhjcdjkaaFlow
import Derived.Test.YtmoanemhjcdjkaaProg
import Derived.WalkSpells
import Derived.WalkLawsBesides
import Derived.Outline
import Derived.LoopTactic
import Derived.IntWalk
import Derived.Deep.RegionLaw
import Derived.Deep.Cut
import Derived.Deep.Light
import Derived.Laws.EntriesVeiled
namespace Go.Proofs.Ytmoanemhjcdjkaa
open Go.RowKit
set_option maxHeartbeats 400000
set_option linter.unusedVariables false
set_option linter.unusedSimpArgs false
theorem pp_blk_ne {w : World} {g g' : Nat} {cs cs' : Array Value} {t t' : TypeId} (h : Blk w g cs t) (h' : Blk w g' cs' t') (ht : t ≠ t') : g ≠ g' := by
  rintro rfl
  unfold Blk at h h'
  rw [h] at h'
  simp at h'
  exact ht h'.2
theorem pp_row_blk {w : World} {base e size n g : Nat} {v : Value} {xs : List Value} {cs : Array Value} {t : TypeId} (h : Row w base e size v n xs) (hb : Blk w g cs t) (ht : e ≠ t) : v.ownBlock ≠ some g := by
  obtain ⟨_, h2⟩ := h
  rcases h2 with ⟨rfl, _⟩ | ⟨g', o, cap, cur, rfl, _, hblk, _⟩
  · intro e; cases e
  · intro e
    injection e with e
    subst e
    unfold Blk at hb
    rw [hblk] at hb
    simp at hb
    exact ht hb.2
theorem row_ne {w : World} {B B' n n' s s' : Nat} {t t' : TypeId} {v v' : Value} {xs xs' : List Value} (h : Row w B t s v n xs) (h' : Row w B' t' s' v' n' xs') (ht : t ≠ t') : ∀ g, v.ownBlock = some g → v'.ownBlock ≠ some g := by
  intro g hg hg'
  rcases h.2 with ⟨rfl, _⟩ | ⟨g1, o, cap, cur, rfl, _, hh, _⟩
  · simp [Value.ownBlock] at hg
  rcases h'.2 with ⟨rfl, _⟩ | ⟨g2, o2, cap2, cur2, rfl, _, hh2, _⟩
  · simp [Value.ownBlock] at hg'
  have e1 : g1 = g := by simpa [Value.ownBlock] using hg
  have e2 : g2 = g := by simpa [Value.ownBlock] using hg'
  subst e1; subst e2
  rw [hh] at hh2
  injection hh2 with hh2
  injection hh2 with _ e
  exact ht e
/-- The array of pointers. -/
def ptrA (F : Fs) (b : Nat → Nat) (i : Nat) : Value := match F i with | none => .pointer none | some _ => .pointer (some ⟨b i, 0, none⟩)
theorem ptrA_some {F : Fs} {b : Nat → Nat} {i : Nat} {p : Sk} (h : F i = some p) : ptrA F b i = .pointer (some ⟨b i, 0, none⟩) := by unfold ptrA; rw [h]
theorem ptrA_none {F : Fs} {b : Nat → Nat} {i : Nat} (h : F i = none) : ptrA F b i = .pointer none := by unfold ptrA; rw [h]
def cellsA (F : Fs) (b : Nat → Nat) : Array Value := ((List.range 16).map (ptrA F b)).toArray
theorem cellsA_at (F : Fs) (b : Nat → Nat) {i : Nat} (h : i < 16) : (cellsA F b)[i]? = some (ptrA F b i) := by
  simp [cellsA, h]
theorem cellsA_ext {F F' : Fs} {b b' : Nat → Nat} (h : ∀ j, j < 16 → ptrA F b j = ptrA F' b' j) : cellsA F b = cellsA F' b' := by
  unfold cellsA
  congr 1
  exact List.map_congr_left (fun j hj => h j (by simpa using hj))
theorem cellsA_set {F : Fs} {b b' : Nat → Nat} {i : Nat} {x : Option Sk} {u : Value} (h : i < 16) (hb : ∀ j, j ≠ i → b' j = b j) (hu : u = ptrA (put F i x) b' i) : (cellsA F b).setIfInBounds i u = cellsA (put F i x) b' := by
  subst hu
  apply Array.ext_getElem?
  intro j
  rw [Array.getElem?_setIfInBounds]
  by_cases hj : i = j
  · subst hj
    rw [if_pos rfl, cellsA_at _ _ h]
    simp [cellsA, h]
  · rw [if_neg hj]
    by_cases hj16 : j < 16
    · rw [cellsA_at _ _ hj16, cellsA_at _ _ hj16]
      unfold ptrA
      rw [put_other F (Ne.symm hj), hb j (Ne.symm hj)]
    · rw [Array.getElem?_eq_none (by simp [cellsA]; omega), Array.getElem?_eq_none (by simp [cellsA]; omega)]
/-- Where a slot lies: its object, its queue, its bytes. -/
structure Sl where
  b : Nat
  q : Value
  s : Value
def Sl.own (l : Sl) (k : Nat) : Prop := k = l.b ∨ l.q.ownBlock = some k ∨ l.s.ownBlock = some k
def Sk.cells (p : Sk) (l : Sl) : Array Value := #[.int .i64 p.kind, .int .i64 p.port, .int .i64 p.many, l.q, .int .i64 p.peer, l.s, .bool p.shut]
/-- One socket in memory. -/
structure One (w : World) (B : Nat) (p : Sk) (l : Sl) : Prop where
  blk : Blk w l.b (p.cells l) 60
  q : Row w B 3 1 l.q p.q.length (p.q.map (Value.int .i64))
  s : Row w B 5 1 l.s p.bs.length (p.bs.map (Value.int .u8))
  low : B ≤ l.b
  ok : p.ok
theorem One.lt {w : World} {B : Nat} {p : Sk} {l : Sl} (h : One w B p l) : ∀ k, l.own k → B ≤ k ∧ k < w.heap.size := fun k hk => by
  rcases hk with rfl | hk | hk
  · exact ⟨h.low, h.blk.lt⟩
  · exact h.q.lt k hk
  · exact h.s.lt k hk
theorem One.fr {w w' : World} {B : Nat} {p : Sk} {l : Sl} {S : Nat → Prop} (h : One w B p l) (hf : Fr S w w') (hS : ∀ k, l.own k → ¬ S k) : One w' B p l :=
  ⟨h.blk.fr hf (hS _ (.inl rfl)), h.q.fr hf (fun k hk => hS k (.inr (.inl hk))), h.s.fr hf (fun k hk => hS k (.inr (.inr hk))), h.low, h.ok⟩
/-- A block of another type is none of its own. -/
theorem One.ne_blk {w : World} {B g : Nat} {p : Sk} {l : Sl} {cs : Array Value} {t : TypeId} (h : One w B p l) (hb : Blk w g cs t) (h1 : (60 : TypeId) ≠ t) (h2 : (3 : TypeId) ≠ t) (h3 : (5 : TypeId) ≠ t) : ∀ k, l.own k → k ≠ g := fun k hk e => by
  subst e
  rcases hk with e | hk | hk
  · exact pp_blk_ne h.blk hb h1 e.symm
  · exact pp_row_blk h.q hb h2 hk
  · exact pp_row_blk h.s hb h3 hk
/-- The sockets in memory. -/
structure Re (w : World) (B g : Nat) (F : Fs) (L : Nat → Sl) : Prop where
  blk : Blk w g (cellsA F fun i => (L i).b) 56
  low : B ≤ g
  ob : ∀ i p, i < 16 → F i = some p → One w B p (L i)
  ne : ∀ i j p q, i < 16 → j < 16 → F i = some p → F j = some q → i ≠ j → ∀ k, (L i).own k → ¬ (L j).own k
def RFt (g : Nat) (F : Fs) (L : Nat → Sl) (k : Nat) : Prop := k = g ∨ ∃ i p, i < 16 ∧ F i = some p ∧ (L i).own k
def RGo (w : World) (B g : Nat) (F : Fs) (L : Nat → Sl) (F' : Fs) (w' : World) : Prop :=
  ∃ L', Re w' B g F' L' ∧ Fr (RFt g F L) w w' ∧ ∀ k, RFt g F' L' k → RFt g F L k ∨ w.heap.size ≤ k
def setL (L : Nat → Sl) (i : Nat) (l : Sl) : Nat → Sl := fun j => if j = i then l else L j
theorem setL_same (L : Nat → Sl) (i : Nat) (l : Sl) : setL L i l i = l := by simp [setL]
theorem setL_other (L : Nat → Sl) {i j : Nat} (h : j ≠ i) (l : Sl) : setL L i l j = L j := by simp [setL, h]
namespace Re
variable {w w' : World} {B g : Nat} {F : Fs} {L : Nat → Sl} {i : Nat} {p p' : Sk}
theorem lowF (h : Re w B g F L) : ∀ k, RFt g F L k → B ≤ k := fun k hk => by
  rcases hk with rfl | ⟨i, p, hi, hp, e⟩
  · exact h.low
  · exact ((h.ob i p hi hp).lt k e).1
theorem ltF (h : Re w B g F L) : ∀ k, RFt g F L k → k < w.heap.size := fun k hk => by
  rcases hk with rfl | ⟨i, p, hi, hp, e⟩
  · exact h.blk.lt
  · exact ((h.ob i p hi hp).lt k e).2
theorem fr {S : Nat → Prop} (h : Re w B g F L) (hf : Fr S w w') (hS : ∀ k, RFt g F L k → ¬ S k) : Re w' B g F L :=
  ⟨h.blk.fr hf (hS g (.inl rfl)), h.low, fun i p hi hp => (h.ob i p hi hp).fr hf (fun k hk => hS k (.inr ⟨i, p, hi, hp, hk⟩)), h.ne⟩
theorem grow (h : Re w B g F L) (hb : Below w.heap.size w w') : Re w' B g F L := h.fr (Fr.of_grow hb) (fun _ _ => id)
theorem refl (h : Re w B g F L) : RGo w B g F L F w := ⟨L, h, Fr.refl _ _, fun k hk => .inl hk⟩
theorem grown (h : Re w B g F L) (hb : Below w.heap.size w w') : RGo w B g F L F w' := ⟨L, h.grow hb, (Fr.of_grow hb).mono fun _ _ e => e.elim, fun k hk => .inl hk⟩
theorem gne (h : Re w B g F L) (hi : i < 16) (hp : F i = some p) : ∀ k, (L i).own k → k ≠ g := (h.ob i p hi hp).ne_blk h.blk (by decide) (by decide) (by decide)
/-- One socket has turned. -/
theorem put_re (h : Re w B g F L) (hi : i < 16) (hp : F i = some p) {l : Sl} (hl : l.b = (L i).b) (hf : Fr (L i).own w w') (ho : One w' B p' l) (hn : ∀ k, l.own k → (L i).own k ∨ w.heap.size ≤ k) : Re w' B g (Ytmoanemhjcdjkaa.put F i (some p')) (setL L i l) := by
  have old : ∀ {j q}, j < 16 → j ≠ i → F j = some q → One w' B q (L j) := fun {j q} hj hne hq => (h.ob j q hj hq).fr hf (h.ne j i q p hj hi hq hp hne)
  have new : ∀ {j q}, j < 16 → j ≠ i → F j = some q → ∀ k, l.own k → ¬ (L j).own k := fun {j q} hj hne hq k hk e => by
    rcases hn k hk with e1 | e1
    · exact h.ne i j p q hi hj hp hq (Ne.symm hne) k e1 e
    · have := ((h.ob j q hj hq).lt k e).2; omega
  refine ⟨?_, h.low, fun j q hj hq => ?_, fun j j' q q' hj hj' hq hq' hne k hk hk' => ?_⟩
  · have := h.blk.fr hf (fun e => h.gne hi hp g e rfl)
    have e : cellsA (Ytmoanemhjcdjkaa.put F i (some p')) (fun j => (setL L i l j).b) = cellsA F (fun j => (L j).b) := by
      apply cellsA_ext
      intro j hj
      by_cases e : j = i
      · subst e
        rw [ptrA_some (put_same F j _), ptrA_some hp, setL_same, hl]
      · unfold ptrA
        rw [put_other F e]
        dsimp only
        rw [setL_other L e]
    rw [e]
    exact this
  · by_cases e : j = i
    · subst e
      rw [put_same] at hq
      injection hq with hq
      subst hq
      rw [setL_same]; exact ho
    · rw [put_other F e] at hq
      rw [setL_other L e]; exact old hj e hq
  · by_cases e : j = i
    · subst e
      have e' : j' ≠ j := Ne.symm hne
      rw [setL_same] at hk
      rw [setL_other L e'] at hk'
      rw [put_other F e'] at hq'
      exact new hj' e' hq' k hk hk'
    · rw [setL_other L e] at hk
      rw [put_other F e] at hq
      by_cases e' : j' = i
      · subst e'
        rw [setL_same] at hk'
        exact new hj e hq k hk' hk
      · rw [setL_other L e'] at hk'
        rw [put_other F e'] at hq'
        exact h.ne j j' q q' hj hj' hq hq' hne k hk hk'
theorem put (h : Re w B g F L) (hi : i < 16) (hp : F i = some p) {l : Sl} (hl : l.b = (L i).b) (hf : Fr (L i).own w w') (ho : One w' B p' l) (hn : ∀ k, l.own k → (L i).own k ∨ w.heap.size ≤ k) : RGo w B g F L (Ytmoanemhjcdjkaa.put F i (some p')) w' := by
  refine ⟨setL L i l, h.put_re hi hp hl hf ho hn, hf.mono fun k _ e => .inr ⟨i, p, hi, hp, e⟩, fun k hk => ?_⟩
  rcases hk with rfl | ⟨j, q, hj, hq, e⟩
  · exact .inl (.inl rfl)
  · by_cases ej : j = i
    · subst ej
      rw [setL_same] at e
      rcases hn k e with e1 | e1
      · exact .inl (.inr ⟨j, p, hj, hp, e1⟩)
      · exact .inr e1
    · rw [put_other F ej] at hq
      rw [setL_other L ej] at e
      exact .inl (.inr ⟨j, q, hj, hq, e⟩)
/-- A slot is emptied. -/
theorem del_re (h : Re w B g F L) (hi : i < 16) : Re (w.setCell ⟨g, i, none⟩ (.pointer none)) B g (Ytmoanemhjcdjkaa.put F i none) L := by
  have hf : Fr (fun k => k = g) w (w.setCell ⟨g, i, none⟩ (.pointer none)) := (Fr.refl (fun k => k = g) w).setCell (p := ⟨g, i, none⟩) (fun _ => rfl) _
  have sub : ∀ {a : Nat} {q1 : Sk}, Ytmoanemhjcdjkaa.put F i none a = some q1 → F a = some q1 := fun {a q1} hq => by
    by_cases e : a = i
    · subst e; rw [put_same] at hq; cases hq
    · rwa [put_other F e] at hq
  refine ⟨?_, h.low, fun j q hj hq => (h.ob j q hj (sub hq)).fr hf (fun k hk => h.gne hj (sub hq) k hk), fun j j' q q' hj hj' hq hq' hne => h.ne j j' q q' hj hj' (sub hq) (sub hq') hne⟩
  · have := h.blk.set i (.pointer none)
    rwa [cellsA_set (F := F) (b := fun i => (L i).b) (b' := fun i => (L i).b) (x := none) hi (fun _ _ => rfl) (by rw [ptrA_none (put_same F i _)])] at this
theorem del (h : Re w B g F L) (hi : i < 16) : RGo w B g F L (Ytmoanemhjcdjkaa.put F i none) (w.setCell ⟨g, i, none⟩ (.pointer none)) := by
  have hf : Fr (fun k => k = g) w (w.setCell ⟨g, i, none⟩ (.pointer none)) := (Fr.refl (fun k => k = g) w).setCell (p := ⟨g, i, none⟩) (fun _ => rfl) _
  have sub : ∀ {a : Nat} {q1 : Sk}, Ytmoanemhjcdjkaa.put F i none a = some q1 → F a = some q1 := fun {a q1} hq => by
    by_cases e : a = i
    · subst e; rw [put_same] at hq; cases hq
    · rwa [put_other F e] at hq
  refine ⟨L, h.del_re hi, hf.mono fun k _ e => .inl e, fun k hk => ?_⟩
  rcases hk with rfl | ⟨j, q, hj, hq, e⟩
  · exact .inl (.inl rfl)
  · exact .inl (.inr ⟨j, q, hj, sub hq, e⟩)
/-- A slot is filled. -/
theorem fill (h : Re w B g F L) (hi : i < 16) (hp : F i = none) (hB : B ≤ w.heap.size) : RGo w B g F L (Ytmoanemhjcdjkaa.put F i (some .zero)) ((w.setCell ⟨g, i, none⟩ (.pointer (some ⟨w.heap.size, 0, none⟩))).alloc (.cells (Sk.zero.cells ⟨w.heap.size, .slice none 0 0, .slice none 0 0⟩) 60)) := by
  have hgl := h.blk.lt
  rw [← World.setCell_alloc_past _ _ _ _ hgl]
  have hf : Fr (fun k => k = g) w ((w.alloc (.cells (Sk.zero.cells ⟨w.heap.size, .slice none 0 0, .slice none 0 0⟩) 60)).setCell ⟨g, i, none⟩ (.pointer (some ⟨w.heap.size, 0, none⟩))) := ((Fr.refl (fun k => k = g) w).alloc _).setCell (p := ⟨g, i, none⟩) (fun _ => rfl) _
  have old : ∀ {a : Nat} {q1 : Sk}, a ≠ i → Ytmoanemhjcdjkaa.put F i (some .zero) a = some q1 → F a = some q1 := fun {a q1} e hq => by rwa [put_other F e] at hq
  have nown : ∀ k, Sl.own ⟨w.heap.size, .slice none 0 0, .slice none 0 0⟩ k → k = w.heap.size := fun k hk => by
    rcases hk with e | e | e
    · exact e
    · simp [Value.ownBlock] at e
    · simp [Value.ownBlock] at e
  refine ⟨setL L i ⟨w.heap.size, .slice none 0 0, .slice none 0 0⟩, ⟨?_, h.low, fun j q hj hq => ?_, fun j j' q q' hj hj' hq hq' hne k hk hk' => ?_⟩, hf.mono fun k _ e => .inl e, fun k hk => ?_⟩
  · have := (h.blk.alloc (.cells (Sk.zero.cells ⟨w.heap.size, .slice none 0 0, .slice none 0 0⟩) 60)).set i (.pointer (some ⟨w.heap.size, 0, none⟩))
    rwa [cellsA_set (F := F) (b := fun i => (L i).b) (b' := fun j => (setL L i ⟨w.heap.size, .slice none 0 0, .slice none 0 0⟩ j).b) (x := some .zero) hi (fun j e => by rw [setL_other L e]) (by rw [ptrA_some (put_same F i _), setL_same])] at this
  · by_cases e : j = i
    · subst e
      rw [put_same] at hq
      injection hq with hq
      subst hq
      rw [setL_same]
      refine ⟨?_, Row.nil _ _ _ _, Row.nil _ _ _ _, hB, by simp [Sk.ok, Sk.zero, Byt]⟩
      exact (Blk.new w (Sk.zero.cells ⟨w.heap.size, .slice none 0 0, .slice none 0 0⟩) 60).set_other (p := ⟨g, j, none⟩) (by show g ≠ w.heap.size; omega) (.pointer (some ⟨w.heap.size, 0, none⟩))
    · rw [setL_other L e]
      exact (h.ob j q hj (old e hq)).fr hf (fun k hk => h.gne hj (old e hq) k hk)
  · by_cases e : j = i
    · subst e
      rw [setL_same] at hk
      rw [setL_other L (Ne.symm hne)] at hk'
      have h1 := nown k hk
      have := ((h.ob j' q' hj' (old (Ne.symm hne) hq')).lt k hk').2
      omega
    · rw [setL_other L e] at hk
      by_cases e' : j' = i
      · subst e'
        rw [setL_same] at hk'
        have h1 := nown k hk'
        have := ((h.ob j q hj (old e hq)).lt k hk).2
        omega
      · rw [setL_other L e'] at hk'
        exact h.ne j j' q q' hj hj' (old e hq) (old e' hq') hne k hk hk'
  · rcases hk with rfl | ⟨j, q, hj, hq, e⟩
    · exact .inl (.inl rfl)
    · by_cases ej : j = i
      · subst ej
        rw [setL_same] at e
        have := nown k e
        exact .inr (by omega)
      · rw [setL_other L ej] at e
        exact .inl (.inr ⟨j, q, hj, old ej hq, e⟩)
/-- Only cells of the object have turned, its slices stay. -/
theorem poke (h : Re w B g F L) (hi : i < 16) (hp : F i = some p) (hf : Fr (fun k => k = (L i).b) w w') (hb : Blk w' (L i).b (p'.cells (L i)) 60) (hq : p'.q = p.q) (hs : p'.bs = p.bs) (hok : p'.ok) : RGo w B g F L (Ytmoanemhjcdjkaa.put F i (some p')) w' := by
  have o := h.ob i p hi hp
  refine h.put hi hp (l := L i) rfl (hf.mono fun k _ e => .inl e) ⟨hb, ?_, ?_, o.low, hok⟩ (fun k hk => .inl hk)
  · rw [hq]; exact o.q.fr hf (fun k hk e => pp_row_blk o.q o.blk (by decide) (by rw [hk, e]))
  · rw [hs]; exact o.s.fr hf (fun k hk e => pp_row_blk o.s o.blk (by decide) (by rw [hk, e]))
end Re
theorem RGo.trans {w w1 w2 : World} {B g : Nat} {F F1 F2 : Fs} {L : Nat → Sl} (h1 : RGo w B g F L F1 w1) (h2 : ∀ L1, Re w1 B g F1 L1 → RGo w1 B g F1 L1 F2 w2) : RGo w B g F L F2 w2 := by
  obtain ⟨L1, m1, f1, o1⟩ := h1
  obtain ⟨L2, m2, f2, o2⟩ := h2 L1 m1
  refine ⟨L2, m2, f1.trans f2 (fun k hk hF => ?_), fun k hk => ?_⟩
  · rcases o1 k hF with e | e
    · exact e
    · omega
  · rcases o2 k hk with e | e
    · exact o1 k e
    · have := f1.size; exact .inr (by omega)
end Go.Proofs.Ytmoanemhjcdjkaa
