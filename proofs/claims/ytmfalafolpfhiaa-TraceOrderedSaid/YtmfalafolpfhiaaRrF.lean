/- A set of nodes as a map[int]bool whose values are true: update, lookup, a walk over its keys. -/
import Derived.Test.YtmfalafolpfhiaaRrE
import Derived.Test.YtmfalafolpfhiaaMapF
import Derived.Maps.RangeWalk
namespace Go.Proofs.Ytmfalafolpfhiaa
open Go.RowKit Go.Maps
set_option maxHeartbeats 400000
set_option linter.unusedVariables false
set_option linter.unusedSimpArgs false
theorem plainElem_bool_inv' {P : Program} {e : TypeId} (he : P.underlying e = some .bool) {v : Value} {y : DataW Unit × List MemPlace} (h : plainElem P e v = some y) : ∃ c, v = .bool c ∧ y = (.lit (.bool c), []) := by
  cases v <;> simp [plainElem, he] at h
  exact ⟨_, rfl, h.symm⟩
/-- Is x marked? -/
def mkB (f : Nat → Bool) (x : Int) : Bool := decide (0 ≤ x) && (decide (x ≤ 63) && f x.toNat)
theorem mkB_iff (f : Nat → Bool) (x : Int) : mkB f x = true ↔ Mk64 f x := by
  unfold mkB Mk64
  simp only [Bool.and_eq_true, decide_eq_true_eq]
  constructor
  · rintro ⟨h1, h2, h3⟩; exact ⟨x.toNat, by omega, h3, by omega⟩
  · rintro ⟨k, h1, h2, rfl⟩; exact ⟨by omega, by omega, by simpa using h2⟩
theorem mkB_set (f : Nat → Bool) {o : Nat} (ho : o < 64) (x : Int) : mkB (setB f o) x = if x = (o : Int) then true else mkB f x := by
  apply Bool.eq_iff_iff.2
  rw [mkB_iff, Mk64.set ho]
  split
  · rename_i h; simp [h]
  · rename_i h; rw [mkB_iff]; simp [h]
theorem mkB_nat (f : Nat → Bool) {o : Nat} (ho : o < 64) : mkB f (o : Int) = f o := by
  unfold mkB
  have h1 : (0 : Int) ≤ o := by omega
  have h2 : (o : Int) ≤ 63 := by omega
  simp [h1, h2]
/-- Block b is a map of the call's own that says which nodes are marked. -/
def NSet (w : World) (b n : Nat) (f : Nat → Bool) : Prop :=
  ∃ D : DataW Unit, w.ownsMap Try.prog 3 (plainElem Try.prog 4) b n D ∧ IsMap D ∧ ∀ x : Int, has D (.int .i64 x) = mkB f x ∧ D.atKey (.int .i64 x) (.lit (.bool false)) = .lit (.bool (mkB f x))
theorem node_wf {x : Int} (h : OkN x) : (Lit.int .i64 x).wf = true := by
  obtain ⟨h1, h2⟩ := h
  simp [Lit.wf, IntKind.min, IntKind.max, IntKind.signed, IntKind.bits]
  omega
namespace NSet
variable {w w' : World} {b n : Nat} {f : Nat → Bool}
theorem made (w : World) : NSet (w.alloc (.map #[] 0)) w.heap.size 0 (fun _ => false) :=
  ⟨.map [], World.ownsMap_made w _ _ _, isMap_empty, fun x => ⟨by simp [has, mkB], by simp [DataW.atKey, mkB]⟩⟩
theorem fr {F : Nat → Prop} (h : NSet w b n f) (hf : Fr F w w') (hn : ¬ F b) : NSet w' b n f := by
  obtain ⟨D, ⟨es, c, h1, h4⟩, h2, h3⟩ := h
  exact ⟨D, ⟨es, c, (hf.block b (lt_blk h1) hn).trans h1, h4⟩, h2, h3⟩
theorem grow (h : NSet w b n f) (hb : Below w.heap.size w w') : NSet w' b n f := h.fr (Fr.of_grow hb) (fun h => h)
theorem alloc (h : NSet w b n f) (o : Obj) : NSet (w.alloc o) b n f := h.fr ((Fr.refl Nil w).alloc o) (fun h => h)
theorem lt (h : NSet w b n f) : b < w.heap.size := by
  obtain ⟨D, h1, _⟩ := h
  exact h1.lt
theorem update (h : NSet w b n f) (hn : n < maxLen) {o : Nat} (ho : o < 64) :
    ∃ w', (Instr.mapUpdate 41 (.map (some b)) (.int .i64 o) (.bool true)).run Try.prog w = .ok () w' ∧ NSet w' b (n + 1) (setB f o) ∧ w.grownBy w' (some b) := by
  have hx : (Lit.int .i64 (o : Int)).wf = true := node_wf ⟨by omega, by omega⟩
  obtain ⟨D, h1, h2, h3⟩ := h
  obtain ⟨w', hrun, r1, r2⟩ := h1.update (int_keyed Try.underlying3) Try.underlying41 hn (keyOf_int_mk Try.underlying3 hx) (plainElem_bool Try.underlying4 true)
  refine ⟨w', hrun, ⟨_, r1, h2.put _ _, fun z => ?_⟩, r2⟩
  rw [mkB_set f ho]
  by_cases hz : z = (o : Int)
  · subst hz
    rw [atKey_put_same h2 (by trivial), has_put_same h2 (by trivial)]; simp
  · have hne : Lit.int .i64 z ≠ Lit.int .i64 (o : Int) := by intro e; injection e with _ e; exact hz e
    rw [atKey_put_other hne, has_put_other hne, (h3 z).1, (h3 z).2]; simp [hz]
theorem look (h : NSet w b n f) {x : Int} (hx : OkN x) : (Instr.lookup 41 (.map (some b)) (.int .i64 x) false).run Try.prog w = .ok (.bool (mkB f x)) w := by
  obtain ⟨D, h1, h2, h3⟩ := h
  obtain ⟨v, ps, hrun, hv⟩ := h1.lookup (int_keyed Try.underlying3) Try.underlying41 (by rfl) (plainElem_bool Try.underlying4 false) (keyOf_int_mk Try.underlying3 (node_wf hx))
  rw [(h3 x).2] at hv
  obtain ⟨c, rfl, hy⟩ := plainElem_bool_inv' Try.underlying4 hv
  injection hy with hy
  injection hy with hy
  injection hy with hy
  rw [hrun, hy]
end NSet
/-- What a lookup in the map says. -/
noncomputable def lookB (b : Nat) (w : World) (k : Nat) : Bool :=
  match (Instr.lookup 41 (.map (some b)) (.int .i64 k) false).run Try.prog w with
  | .ok (.bool y) _ => y
  | _ => false
theorem NSet.unmet {w : World} {b n : Nat} {f : Nat → Bool} (h : NSet w b n f) : unmet (lookB b w) = Ytmfalafolpfhiaa.unmet f := unmet_ext fun k hk => by
  unfold lookB
  rw [h.look ⟨by omega, by omega⟩]
  exact mkB_nat f hk
/-- The keys met so far. -/
structure Kys (f : Nat → Bool) (left : Lit → Bool) (ks : List Int) : Prop where
  nd : ks.Nodup
  ok : ∀ x : Int, x ∈ ks → mkB f x = true
  all : ∀ x : Int, mkB f x = true → left (.int .i64 x) = false → x ∈ ks
  no : ∀ x : Int, x ∈ ks → left (.int .i64 x) = false
theorem Kys.start {f : Nat → Bool} {left : Lit → Bool} (h : ∀ x : Int, left (.int .i64 x) = mkB f x) : Kys f left [] := by
  refine ⟨List.nodup_nil, fun x hx => (by cases hx), fun x h1 h2 => ?_, fun x hx => (by cases hx)⟩
  rw [h x, h1] at h2; cases h2
theorem Kys.next {f : Nat → Bool} {left : Lit → Bool} {ks : List Int} {x : Int} (h : Kys f left ks) (hl : left (.int .i64 x) = true) (hm : mkB f x = true) : Kys f (fun z => left z && !z.sameKey (.int .i64 x)) (ks ++ [x]) := by
  refine ⟨?_, fun y hy => ?_, fun y h1 h2 => ?_, fun y hy => ?_⟩
  · rw [List.nodup_append]
    refine ⟨h.nd, by simp, fun a ha c hc => ?_⟩
    simp at hc
    subst hc
    intro e
    subst e
    rw [h.no _ ha] at hl; cases hl
  · rcases List.mem_append.1 hy with hy | hy
    · exact h.ok y hy
    · simp at hy; subst hy; exact hm
  · by_cases hyx : y = x
    · subst hyx; simp
    · refine List.mem_append_left _ (h.all y h1 ?_)
      have : (Lit.int .i64 y).sameKey (.int .i64 x) = false := by
        simp [Lit.sameKey, hyx]
      simpa [this] using h2
  · rcases List.mem_append.1 hy with hy | hy
    · simp [h.no y hy]
    · simp at hy; subst hy; simp [Lit.sameKey]
theorem Kys.done {f : Nat → Bool} {left : Lit → Bool} {ks : List Int} (h : Kys f left ks) (hl : ∀ kl, left kl = false) : (ks.mergeSort fun x y => decide (x ≤ y)) = outL f 64 :=
  sorted_keys h.nd fun n => ⟨fun hn => (mkB_iff f n).1 (h.ok n hn), fun hn => h.all n ((mkB_iff f n).2 hn) (hl _)⟩
/-- 'for n := range met': the next key. -/
theorem wpList_next_nodes (w : World) {ops : Array Oper} {rest : List Oper} {o : Oper} {a : Act} {Q : Exit → Act → World → Prop} (hg : o.guard = none) (it : Operand) (hop : o.op = Op.next it false) (b r n : Nat) (D : DataW Unit) (f : Nat → Bool)
    (hD : ∀ x : Int, has D (.int .i64 x) = mkB f x ∧ D.atKey (.int .i64 x) (.lit (.bool false)) = .lit (.bool (mkB f x))) (left : Lit → Bool) (cnt : Nat) (hit : a.eval it = .pointer (some ⟨r, 0, none⟩)) (h : w.ranges Try.prog 3 (plainElem Try.prog 4) b r n D left cnt)
    (hDone : cnt = 0 → (∀ kl, left kl = false) → wpList Try.prog ops Q rest (a.put o.dst (.tuple #[.bool false])) w)
    (hMore : ∀ (x : Int) (w' : World) (cnt' : Nat), left (.int .i64 x) = true → mkB f x = true → w'.ranges Try.prog 3 (plainElem Try.prog 4) b r n D (fun z => left z && !z.sameKey (.int .i64 x)) cnt' → cnt' < cnt →
      w.grownBy w' (some r) → w'.heap.size = w.heap.size → (Instr.entry (.pointer (some ⟨r, 0, none⟩))).run Try.prog w' = .ok (.tuple #[.int .i64 x, .bool true]) w' → wpList Try.prog ops Q rest (a.put o.dst (.tuple #[.bool true, .int .i64 x, .bool true])) w') :
    wpList Try.prog ops Q (o :: rest) a w :=
  wpList_next_ranges w hg it hop 3 (int_keyed Try.underlying3) (plainElem Try.prog 4) (Value.int .i64) Value.bool (fun key kl hkey => by obtain ⟨x, rfl, _⟩ := Maps.keyOf_int_inv Try.underlying3 hkey; exact ⟨x, rfl⟩)
    (fun v y hv => by obtain ⟨c, rfl, _⟩ := plainElem_bool_inv' Try.underlying4 hv; exact ⟨c, rfl⟩) b r n D left cnt hit h hDone
    (fun x c kl y w' cnt' hk hl hR hat hr hc hg' hs he => by
      obtain ⟨c', e1, e2⟩ := plainElem_bool_inv' Try.underlying4 hR
      injection e1 with e1
      subst e1
      subst e2
      have hkl : kl = .int .i64 x := by
        simp only [keyOf, Try.underlying3, mapKey] at hk
        split at hk
        · exact (Option.some.inj hk).symm
        · cases hk
      subst hkl
      have hh := has_true_of_atKey hat
      rw [(hD x).1] at hh
      have h2 := hat (.lit (.bool false))
      rw [(hD x).2, hh] at h2
      dsimp only at h2
      injection h2 with h2
      injection h2 with h2
      subst h2
      exact hMore x w' cnt' hl hh hr hc hg' hs he)
end Go.Proofs.Ytmfalafolpfhiaa
