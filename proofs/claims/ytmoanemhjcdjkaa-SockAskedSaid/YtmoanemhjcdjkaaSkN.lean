/- Sockets in memory: turns whose slots are named. -/
import Derived.Test.YtmoanemhjcdjkaaSkJ
namespace Go.Proofs.Ytmoanemhjcdjkaa
open Go.RowKit
set_option maxHeartbeats 400000
set_option linter.unusedVariables false
set_option linter.unusedSimpArgs false
theorem put_put (F : Fs) (i : Nat) (x y : Option Sk) : put (put F i x) i y = put F i y := by
  funext j
  by_cases e : j = i
  · subst e; rw [put_same, put_same]
  · rw [put_other _ e, put_other _ e, put_other _ e]
theorem setL_put (L : Nat → Sl) (i : Nat) (x y : Sl) : setL (setL L i x) i y = setL L i y := by
  funext j
  by_cases e : j = i
  · subst e; rw [setL_same, setL_same]
  · rw [setL_other _ e, setL_other _ e, setL_other _ e]
theorem setL_self (L : Nat → Sl) (i : Nat) : setL L i (L i) = L := by
  funext j
  by_cases e : j = i
  · subst e; rw [setL_same]
  · rw [setL_other _ e]
def RGe (w : World) (B g : Nat) (F : Fs) (L : Nat → Sl) (F' : Fs) (L' : Nat → Sl) (w' : World) : Prop :=
  Re w' B g F' L' ∧ Fr (RFt g F L) w w' ∧ ∀ k, RFt g F' L' k → RFt g F L k ∨ w.heap.size ≤ k
theorem RGe.go {w w' : World} {B g : Nat} {F F' : Fs} {L L' : Nat → Sl} (h : RGe w B g F L F' L' w') : RGo w B g F L F' w' := ⟨L', h⟩
theorem RGe.trans {w w1 w2 : World} {B g : Nat} {F F1 F2 : Fs} {L L1 L2 : Nat → Sl} (h1 : RGe w B g F L F1 L1 w1) (h2 : RGe w1 B g F1 L1 F2 L2 w2) : RGe w B g F L F2 L2 w2 := by
  obtain ⟨m1, f1, o1⟩ := h1
  obtain ⟨m2, f2, o2⟩ := h2
  refine ⟨m2, f1.trans f2 (fun k hk hF => ?_), fun k hk => ?_⟩
  · rcases o1 k hF with e | e
    · exact e
    · omega
  · rcases o2 k hk with e | e
    · exact o1 k e
    · have := f1.size; exact .inr (by omega)
namespace Re
variable {w w' : World} {B g : Nat} {F : Fs} {L : Nat → Sl} {i : Nat} {p p' : Sk}
theorem grown_e (h : Re w B g F L) (hb : Below w.heap.size w w') : RGe w B g F L F L w' := ⟨h.grow hb, (Fr.of_grow hb).mono fun _ _ e => e.elim, fun k hk => .inl hk⟩
theorem put_e (h : Re w B g F L) (hi : i < 16) (hp : F i = some p) {l : Sl} (hl : l.b = (L i).b) (hf : Fr (L i).own w w') (ho : One w' B p' l) (hn : ∀ k, l.own k → (L i).own k ∨ w.heap.size ≤ k) : RGe w B g F L (Ytmoanemhjcdjkaa.put F i (some p')) (setL L i l) w' := by
  refine ⟨h.put_re hi hp hl hf ho hn, hf.mono fun k _ e => .inr ⟨i, p, hi, hp, e⟩, fun k hk => ?_⟩
  rcases hk with rfl | ⟨j, q, hj, hq, e⟩
  · exact .inl (.inl rfl)
  · by_cases ej : j = i
    · subst ej
      rw [setL_same] at e
      rcases hn k e with e1 | e1
      · exact .inl (.inr ⟨j, p, hj, hp, e1⟩)
      · exact .inr e1
    · rw [put_other F ej] at hq
      rw [setL_other L ej] at e
      exact .inl (.inr ⟨j, q, hj, hq, e⟩)
theorem poke_e (h : Re w B g F L) (hi : i < 16) (hp : F i = some p) (hf : Fr (fun k => k = (L i).b) w w') (hb : Blk w' (L i).b (p'.cells (L i)) 60) (hq : p'.q = p.q) (hs : p'.bs = p.bs) (hok : p'.ok) : RGe w B g F L (Ytmoanemhjcdjkaa.put F i (some p')) L w' := by
  have o := h.ob i p hi hp
  have := h.put_e hi hp (l := L i) rfl (hf.mono fun k _ e => .inl e) ⟨hb, (by rw [hq]; exact o.q.fr hf (fun k hk e => pp_row_blk o.q o.blk (by decide) (by rw [hk, e]))), (by rw [hs]; exact o.s.fr hf (fun k hk e => pp_row_blk o.s o.blk (by decide) (by rw [hk, e]))), o.low, hok⟩ (fun k hk => .inl hk)
  rwa [setL_self] at this
theorem fill_e (h : Re w B g F L) (hi : i < 16) (hp : F i = none) (hB : B ≤ w.heap.size) : RGe w B g F L (Ytmoanemhjcdjkaa.put F i (some .zero)) (setL L i ⟨w.heap.size, .slice none 0 0, .slice none 0 0⟩) (MadeW w g i) := by
  have hgl := h.blk.lt
  have hf : Fr (fun k => k = g) w (MadeW w g i) := by
    unfold MadeW
    exact ((Fr.refl (fun k => k = g) w).setCell (p := ⟨g, i, none⟩) (fun _ => rfl) _).alloc _
  have old : ∀ {a : Nat} {q1 : Sk}, a ≠ i → Ytmoanemhjcdjkaa.put F i (some .zero) a = some q1 → F a = some q1 := fun {a q1} e hq => by rwa [put_other F e] at hq
  have nown : ∀ k, Sl.own ⟨w.heap.size, .slice none 0 0, .slice none 0 0⟩ k → k = w.heap.size := fun k hk => by
    rcases hk with e | e | e
    · exact e
    · simp [Value.ownBlock] at e
    · simp [Value.ownBlock] at e
  refine ⟨?_, hf.mono fun k _ e => .inl e, fun k hk => ?_⟩
  · unfold MadeW
    rw [← World.setCell_alloc_past _ _ _ _ hgl]
    have hf : Fr (fun k => k = g) w ((w.alloc (.cells (Sk.zero.cells ⟨w.heap.size, .slice none 0 0, .slice none 0 0⟩) 60)).setCell ⟨g, i, none⟩ (.pointer (some ⟨w.heap.size, 0, none⟩))) := ((Fr.refl (fun k => k = g) w).alloc _).setCell (p := ⟨g, i, none⟩) (fun _ => rfl) _
    refine ⟨?_, h.low, fun j q hj hq => ?_, fun j j' q q' hj hj' hq hq' hne k hk hk' => ?_⟩
    · have := (h.blk.alloc (.cells (Sk.zero.cells ⟨w.heap.size, .slice none 0 0, .slice none 0 0⟩) 60)).set i (.pointer (some ⟨w.heap.size, 0, none⟩))
      rwa [cellsA_set (F := F) (b := fun i => (L i).b) (b' := fun j => (setL L i ⟨w.heap.size, .slice none 0 0, .slice none 0 0⟩ j).b) (x := some .zero) hi (fun j e => by rw [setL_other L e]) (by rw [ptrA_some (put_same F i _), setL_same])] at this
    · by_cases e : j = i
      · subst e
        rw [put_same] at hq
        injection hq with hq
        subst hq
        rw [setL_same]
        refine ⟨?_, Row.nil _ _ _ _, Row.nil _ _ _ _, hB, by simp [Sk.ok, Sk.zero, Byt]⟩
        exact (Blk.new w (Sk.zero.cells ⟨w.heap.size, .slice none 0 0, .slice none 0 0⟩) 60).set_other (p := ⟨g, j, none⟩) (by show g ≠ w.heap.size; omega) (.pointer (some ⟨w.heap.size, 0, none⟩))
      · rw [setL_other L e]
        exact (h.ob j q hj (old e hq)).fr hf (fun k hk => h.gne hj (old e hq) k hk)
    · by_cases e : j = i
      · subst e
        rw [setL_same] at hk
        rw [setL_other L (Ne.symm hne)] at hk'
        have h1 := nown k hk
        have := ((h.ob j' q' hj' (old (Ne.symm hne) hq')).lt k hk').2
        omega
      · rw [setL_other L e] at hk
        by_cases e' : j' = i
        · subst e'
          rw [setL_same] at hk'
          have h1 := nown k hk'
          have := ((h.ob j q hj (old e hq)).lt k hk).2
          omega
        · rw [setL_other L e'] at hk'
          exact h.ne j j' q q' hj hj' (old e hq) (old e' hq') hne k hk hk'
  · rcases hk with rfl | ⟨j, q, hj, hq, e⟩
    · exact .inl (.inl rfl)
    · by_cases ej : j = i
      · subst ej
        rw [setL_same] at e
        have := nown k e
        exact .inr (by omega)
      · rw [setL_other L ej] at e
        exact .inl (.inr ⟨j, q, hj, old ej hq, e⟩)
end Re
/-- All seven cells of a new socket. -/
def new7 (W : World) (N : Nat) (port id : Int) : World :=
  ((((((W.setCell ⟨N, 0, none⟩ (.int .i64 3)).setCell ⟨N, 1, none⟩ (.int .i64 port)).setCell ⟨N, 2, none⟩ (.int .i64 0)).setCell ⟨N, 3, none⟩ (.slice none 0 0)).setCell ⟨N, 4, none⟩ (.int .i64 id)).setCell ⟨N, 5, none⟩ (.slice none 0 0)).setCell ⟨N, 6, none⟩ (.bool false)
def new3 (W : World) (N : Nat) (port id : Int) : World :=
  ((W.setCell ⟨N, 0, none⟩ (.int .i64 3)).setCell ⟨N, 1, none⟩ (.int .i64 port)).setCell ⟨N, 4, none⟩ (.int .i64 id)
theorem new7_fr (W : World) (N : Nat) (port id : Int) : Fr (fun k => k = N) W (new7 W N port id) :=
  (((((((Fr.refl (fun k => k = N) W).setCell (p := ⟨N, 0, none⟩) (fun _ => rfl) _).setCell (p := ⟨N, 1, none⟩) (fun _ => rfl) _).setCell (p := ⟨N, 2, none⟩) (fun _ => rfl) _).setCell (p := ⟨N, 3, none⟩) (fun _ => rfl) _).setCell (p := ⟨N, 4, none⟩) (fun _ => rfl) _).setCell (p := ⟨N, 5, none⟩) (fun _ => rfl) _).setCell (p := ⟨N, 6, none⟩) (fun _ => rfl) _
theorem new3_fr (W : World) (N : Nat) (port id : Int) : Fr (fun k => k = N) W (new3 W N port id) :=
  (((Fr.refl (fun k => k = N) W).setCell (p := ⟨N, 0, none⟩) (fun _ => rfl) _).setCell (p := ⟨N, 1, none⟩) (fun _ => rfl) _).setCell (p := ⟨N, 4, none⟩) (fun _ => rfl) _
section
variable {w w' : World} {B g g' : Nat} {F : Fs} {L : Nat → Sl} {i j k : Nat} {p x y : Sk}
/-- The new end. -/
theorem Re.new7_e (h : Re w B g F L) (hi : i < 16) (hp : F i = some .zero) (hl : L i = ⟨g', .slice none 0 0, .slice none 0 0⟩) {port id : Int} (hport : 1 ≤ port ∧ port ≤ 99) (hid : 1 ≤ id ∧ id ≤ 16) : RGe w B g F L (Ytmoanemhjcdjkaa.put F i (some { Sk.zero with kind := 3, port := port, peer := id })) L (new7 w g' port id) := by
  have o := h.ob i _ hi hp
  have hb : (L i).b = g' := by rw [hl]
  refine h.poke_e hi hp (by rw [hb]; exact new7_fr w g' port id) ?_ rfl rfl (by simp [Sk.ok, Sk.zero, Byt]; omega)
  have := ((((((o.blk.set 0 (.int .i64 3)).set 1 (.int .i64 port)).set 2 (.int .i64 0)).set 3 (.slice none 0 0)).set 4 (.int .i64 id)).set 5 (.slice none 0 0)).set 6 (.bool false)
  rw [hl] at this ⊢
  exact this
/-- The old end. -/
theorem Re.new3_e (h : Re w B g F L) (hi : i < 16) (hp : F i = some x) {port id : Int} (hport : 1 ≤ port ∧ port ≤ 99) (hid : 1 ≤ id ∧ id ≤ 16) : RGe w B g F L (Ytmoanemhjcdjkaa.put F i (some { x with kind := 3, port := port, peer := id })) L (new3 w (L i).b port id) := by
  have o := h.ob i _ hi hp
  refine h.poke_e hi hp (new3_fr w _ port id) (((o.blk.set 0 (.int .i64 3)).set 1 (.int .i64 port)).set 4 (.int .i64 id)) rfl rfl ?_
  obtain ⟨k1, k2, k3, k4, k5, k6, k7, k8, k9, k10⟩ := o.ok
  exact ⟨by dsimp only; decide, by dsimp only; decide, by dsimp only; omega, by dsimp only; omega, k5, k6, k7, by dsimp only; omega, by dsimp only; omega, k10⟩
/-- One more in the queue. -/
theorem Re.more_e {w9 : World} (h : Re w B g F L) (hB : B ≤ w.heap.size) (hi : i < 16) (hp : F i = some y) {n : Int} (hlt : (y.q.length : Int) < y.many) {v : Value} (o1 : Obj) (hg : (w.alloc o1).grownBy w9 (L i).q.ownBlock) (hr : Row w9 B 3 1 v (y.q.length + 1) (y.q.map (Value.int .i64) ++ [.int .i64 n])) (ho : v.ownBlock = (L i).q.ownBlock ∨ v.ownBlock = some (w.heap.size + 1)) : RGe w B g F L (Ytmoanemhjcdjkaa.put F i (some { y with q := y.q ++ [n] })) (setL L i { L i with q := v }) (w9.setCell ⟨(L i).b, 3, none⟩ v) := by
  have hf : Fr (fun k => (L i).q.ownBlock = some k) w w9 := ((Fr.refl (fun k => (L i).q.ownBlock = some k) w).alloc o1).grown hg (fun k e _ => e)
  have hok := (h.ob i _ hi hp).ok
  obtain ⟨t1, t2, t3⟩ := h.turn_q hi hp hf (v := v) (xs := y.q ++ [n]) (by rw [List.length_append, List.map_append]; exact hr) (fun k hk => by
    rcases ho with e2 | e2
    · left; exact e2.symm.trans hk
    · rw [e2] at hk; injection hk with hk; right; omega) (by
    obtain ⟨k1, k2, k3, k4, k5, k6, k7, k8⟩ := hok
    exact ⟨k1, k2, k3, k4, k5, k6, by dsimp only; rw [List.length_append]; simp; omega, k8⟩)
  exact h.put_e hi hp (l := { L i with q := v }) rfl t1 t2 t3
end
end Go.Proofs.Ytmoanemhjcdjkaa
