/- A map[trace.Edge]bool of the call's own as a set of edges. -/
import Derived.Test.YtmfalafolpfhiaaRgA
import Derived.Test.YtmfalafolpfhiaaRrF
import Derived.Maps.OwnSet
import Derived.DeepKeys5
namespace Go.Proofs.Ytmfalafolpfhiaa
open Go.RowKit Go.Maps
set_option maxHeartbeats 400000
set_option linter.unusedVariables false
set_option linter.unusedSimpArgs false
theorem Try.laidD : laidOutB Try.prog = true := by kernel_rfl
theorem Try.cells37 : Try.prog.cellsOf 37 = 2 := by kernel_rfl
theorem Try.cells3 : Try.prog.cellsOf 3 = 1 := by kernel_rfl
theorem Try.key37 : Try.prog.keyType 37 = true := by kernel_rfl
theorem edge_keyed : Keyed Try.prog 37 := Keyed.of_law (deep_law_gate Try.laidD (of_decide_eq_true (by kernel_rfl)) (of_decide_eq_true (by kernel_rfl)) Try.key37 (by rw [Try.underlying37]))
def edgeV (e : Int × Int) : Value := .agg #[.int .i64 e.1, .int .i64 e.2]
def KL (e : Int × Int) : Lit := .string (keyBytes [.int .i64 e.1, .int .i64 e.2])
theorem keyOf_edge {e : Int × Int} (h1 : (Lit.int .i64 e.1).wf = true) (h2 : (Lit.int .i64 e.2).wf = true) : keyOf Try.prog 37 (edgeV e) = some (KL e) := by
  obtain ⟨N, hN⟩ : ∃ N, Try.prog.types.size = N + 1 := ⟨_, (Nat.sub_add_cancel (of_decide_eq_true (by kernel_rfl))).symm⟩
  unfold keyOf
  rw [Try.underlying37]
  simp only [Try.key37, Value.formed, edgeV, Try.underlying37, Try.cells37, hN, Value.cells]
  simp [Program.keyLits, Try.underlying37, Try.cells37, Try.cells3, Try.underlying3, h1, h2, KL]
theorem keyOf_edge_inv {v : Value} {kl : Lit} (h : keyOf Try.prog 37 v = some kl) : ∃ e, v = edgeV e ∧ kl = KL e := by
  obtain ⟨N, hN⟩ : ∃ N, Try.prog.types.size = N + 1 := ⟨_, (Nat.sub_add_cancel (of_decide_eq_true (by kernel_rfl))).symm⟩
  unfold keyOf at h
  rw [Try.underlying37] at h
  simp only [Try.key37, Bool.true_and] at h
  split at h
  · rename_i hf
    cases v with
    | agg cs =>
      simp only [Value.formed, Try.underlying37, Try.cells37, beq_iff_eq] at hf
      obtain ⟨l⟩ := cs
      match l, hf with
      | [a, b], _ =>
        rw [hN] at h
        have ha : ∃ x, a = .int .i64 x := by
          cases a with
          | int q x =>
            by_cases hq : q = .i64
            · subst hq; exact ⟨x, rfl⟩
            · exfalso; simp [Value.cells, Program.keyLits, Try.underlying37, Try.cells37, Try.cells3, Try.underlying3, hq] at h
          | _ => exfalso; simp [Value.cells, Program.keyLits, Try.underlying37, Try.cells37, Try.cells3, Try.underlying3] at h
        obtain ⟨x, rfl⟩ := ha
        by_cases hx : (Lit.int .i64 x).wf = true
        · have hb : ∃ x, b = .int .i64 x := by
            cases b with
            | int q x =>
              by_cases hq : q = .i64
              · subst hq; exact ⟨x, rfl⟩
              · exfalso; simp [Value.cells, Program.keyLits, Try.underlying37, Try.cells37, Try.cells3, Try.underlying3, hq, hx] at h
            | _ => exfalso; simp [Value.cells, Program.keyLits, Try.underlying37, Try.cells37, Try.cells3, Try.underlying3, hx] at h
          obtain ⟨y, rfl⟩ := hb
          by_cases hy : (Lit.int .i64 y).wf = true
          · refine ⟨(x, y), rfl, ?_⟩
            simp [Value.cells, Program.keyLits, Try.underlying37, Try.cells37, Try.cells3, Try.underlying3, hx, hy] at h
            exact h.symm
          · simp [Value.cells, Program.keyLits, Try.underlying37, Try.cells37, Try.cells3, Try.underlying3, hx, hy] at h
        · simp [Value.cells, Program.keyLits, Try.underlying37, Try.cells37, Try.cells3, Try.underlying3, hx] at h
    | _ => simp [Value.formed, Try.underlying37] at hf
  · cases h
theorem keyOf_ok {e : Int × Int} (h : OkE e) : keyOf Try.prog 37 (edgeV e) = some (KL e) := keyOf_edge (node_wf h.1) (node_wf h.2)
theorem KL_inj {e e' : Int × Int} (h : OkE e) (h' : OkE e') (he : KL e = KL e') : e = e' := by
  have := edge_keyed.inj (keyOf_ok h) (by rw [he]; exact keyOf_ok h')
  unfold edgeV at this
  simp at this
  exact Prod.ext this.1 this.2
theorem KL_same {e e' : Int × Int} (h : OkE e) (h' : OkE e') : (KL e).sameKey (KL e') = decide (e = e') := by
  by_cases he : e = e'
  · subst he
    have : (KL e).sameKey (KL e) = true := by simp [KL, Lit.sameKey]
    rw [this]; simp
  · rw [sameKey_ne (fun x => he (KL_inj h h' x))]; simp [he]
/-- The map says the edges that L says. -/
structure EMap (D : DataW Unit) (L : Int × Int → Bool) : Prop where
  list : ∃ es, D = .map es ∧ ∀ p ∈ es, ∃ e, OkE e ∧ p.1 = KL e
  at_ : ∀ e, OkE e → has D (KL e) = L e ∧ D.atKey (KL e) (.lit (.bool false)) = .lit (.bool (L e))
  keys : ∀ kl, has D kl = true → ∃ e, OkE e ∧ kl = KL e
theorem EMap.isMap {D : DataW Unit} {L : Int × Int → Bool} (h : EMap D L) : IsMap D := by obtain ⟨es, h, _⟩ := h.list; exact ⟨es, h⟩
theorem KL_key (e : Int × Int) : WideAt.IsKeyLit (KL e) := by unfold KL; trivial
theorem EMap.empty : EMap (.map []) (fun _ => false) := ⟨⟨[], rfl, fun p hp => by cases hp⟩, fun e _ => ⟨by simp [has], by simp [DataW.atKey]⟩, fun kl h => by simp [has] at h⟩
theorem EMap.put {D : DataW Unit} {L : Int × Int → Bool} (h : EMap D L) {e : Int × Int} (he : OkE e) : EMap (D.put (KL e) (.lit (.bool true))) (fun z => if z = e then true else L z) := by
  obtain ⟨es, he1, he2⟩ := h.list
  refine ⟨⟨ChangeMaps.putKey (KL e) (.lit (.bool true)) es, by rw [he1, DataW.put_eq], fun p hp => ?_⟩, fun z hz => ?_, fun kl hk => ?_⟩
  · rcases ChangeMaps.mem_insert_iff.1 hp with rfl | hp
    · exact ⟨e, he, rfl⟩
    · exact he2 p (List.mem_filter.1 hp).1
  · by_cases hze : z = e
    · subst hze
      rw [has_put_same h.isMap (KL_key _), atKey_put_same h.isMap (KL_key _)]; simp
    · have hne : KL z ≠ KL e := fun x => hze (KL_inj hz he x)
      rw [has_put_other hne, atKey_put_other hne, (h.at_ z hz).1, (h.at_ z hz).2]; simp [hze]
  · by_cases hke : kl = KL e
    · exact ⟨e, he, hke⟩
    · rw [has_put_other hke] at hk; exact h.keys kl hk
theorem EMap.del {D : DataW Unit} {L : Int × Int → Bool} (h : EMap D L) {e : Int × Int} (he : OkE e) : EMap (D.del (KL e)) (fun z => if z = e then false else L z) := by
  obtain ⟨es, he1, he2⟩ := h.list
  refine ⟨⟨ChangeMaps.delKey (KL e) es, by rw [he1, DataW.del_eq], fun p hp => he2 p (List.mem_filter.1 hp).1⟩, fun z hz => ?_, fun kl hk => ?_⟩
  · by_cases hze : z = e
    · subst hze
      rw [has_del_same, atKey_del_same]; simp
    · have hne : KL z ≠ KL e := fun x => hze (KL_inj hz he x)
      rw [has_del_other hne, atKey_del_other hne, (h.at_ z hz).1, (h.at_ z hz).2]; simp [hze]
  · by_cases hke : kl = KL e
    · subst hke; rw [has_del_same] at hk; cases hk
    · rw [has_del_other hke] at hk; exact h.keys kl hk
/-- Block b holds such a map. -/
def ESet (w : World) (b n : Nat) (L : Int × Int → Bool) : Prop := ∃ D : DataW Unit, w.ownsMap Try.prog 37 (plainElem Try.prog 4) b n D ∧ EMap D L
namespace ESet
variable {w w' : World} {b n : Nat} {L : Int × Int → Bool}
theorem made (w : World) : ESet (w.alloc (.map #[] 0)) w.heap.size 0 (fun _ => false) := ⟨.map [], World.ownsMap_made w _ _ _, EMap.empty⟩
theorem fr {F : Nat → Prop} (h : ESet w b n L) (hf : Fr F w w') (hn : ¬ F b) : ESet w' b n L := by
  obtain ⟨D, ⟨es, c, h1, h4⟩, h2⟩ := h
  exact ⟨D, ⟨es, c, (hf.block b (lt_blk h1) hn).trans h1, h4⟩, h2⟩
theorem grow (h : ESet w b n L) (hb : Below w.heap.size w w') : ESet w' b n L := h.fr (Fr.of_grow hb) (fun h => h)
theorem alloc (h : ESet w b n L) (o : Obj) : ESet (w.alloc o) b n L := h.fr ((Fr.refl Nil w).alloc o) (fun h => h)
theorem grown (h : ESet w b n L) {row : Option Nat} (hg : w.grownBy w' row) (hr : row ≠ some b) : ESet w' b n L := h.fr (Fr.of_grown hg) (fun e => hr e)
theorem lt (h : ESet w b n L) : b < w.heap.size := by
  obtain ⟨D, h1, _⟩ := h
  exact h1.lt
theorem update (h : ESet w b n L) (hn : n < maxLen) {e : Int × Int} (he : OkE e) :
    ∃ w', (Instr.mapUpdate 47 (.map (some b)) (edgeV e) (.bool true)).run Try.prog w = .ok () w' ∧ ESet w' b (n + 1) (fun z => if z = e then true else L z) ∧ w.grownBy w' (some b) := by
  obtain ⟨D, h1, h2⟩ := h
  obtain ⟨w', hrun, r1, r2⟩ := h1.update edge_keyed Try.underlying47 hn (keyOf_ok he) (plainElem_bool Try.underlying4 true)
  exact ⟨w', hrun, ⟨_, r1, h2.put he⟩, r2⟩
theorem look (h : ESet w b n L) {e : Int × Int} (he : OkE e) : (Instr.lookup 47 (.map (some b)) (edgeV e) false).run Try.prog w = .ok (.bool (L e)) w := by
  obtain ⟨D, h1, h2⟩ := h
  obtain ⟨v, ps, hrun, hv⟩ := h1.lookup edge_keyed Try.underlying47 (by rfl) (plainElem_bool Try.underlying4 false) (keyOf_ok he)
  rw [(h2.at_ e he).2] at hv
  obtain ⟨c, rfl, hy⟩ := plainElem_bool_inv' Try.underlying4 hv
  injection hy with hy
  injection hy with hy
  injection hy with hy
  rw [hrun, hy]
theorem len (h : ESet w b n L) : ∃ m : Nat, (∀ ty, (Builtin.len_ #[47] ty #[.map (some b)]).run Try.prog w = .ok (.int .i64 m) w) ∧ m ≤ n ∧ (0 < m ↔ ∃ e, OkE e ∧ L e = true) := by
  obtain ⟨D, h1, h2⟩ := h
  refine ⟨size D, fun ty => h1.len Try.underlying47 ty, h1.size_le, ?_⟩
  obtain ⟨es, hes, hks⟩ := h2.list
  constructor
  · intro hp
    rw [hes, size_eq] at hp
    obtain ⟨p, hp⟩ := List.exists_mem_of_length_pos hp
    obtain ⟨e, he, hk⟩ := hks p hp
    have hh : has D (KL e) = true := by
      rw [hes, has_eq, List.any_eq_true]
      exact ⟨p, hp, by rw [hk, KL_same he he]; simp⟩
    rw [(h2.at_ e he).1] at hh
    exact ⟨e, he, hh⟩
  · rintro ⟨e, he, hL⟩
    rw [← (h2.at_ e he).1, hes, has_eq, List.any_eq_true] at hL
    obtain ⟨p, hp, _⟩ := hL
    rw [hes, size_eq]
    exact List.length_pos_of_mem hp
end ESet
/-- What a lookup in the map says. -/
noncomputable def lookE (b : Nat) (w : World) (e : Int × Int) : Bool :=
  match (Instr.lookup 47 (.map (some b)) (edgeV e) false).run Try.prog w with
  | .ok (.bool y) _ => y
  | _ => false
def cntL (es : List (Int × Int)) (L : Int × Int → Bool) : Nat := (es.filter L).length
theorem ESet.cnt {w : World} {b n : Nat} {L : Int × Int → Bool} {es : List (Int × Int)} (h : ESet w b n L) (hok : ∀ e ∈ es, OkE e) : cntL es (lookE b w) = cntL es L := by
  unfold cntL
  congr 1
  apply List.filter_congr
  intro e he
  unfold lookE
  rw [h.look (hok e he)]
theorem cntL_del {es : List (Int × Int)} {L : Int × Int → Bool} {e : Int × Int} (he : e ∈ es) (hL : L e = true) : cntL es (fun z => if z = e then false else L z) < cntL es L := by
  unfold cntL
  have hle : ∀ l : List (Int × Int), (l.filter (fun z => if z = e then false else L z)).length ≤ (l.filter L).length := by
    intro l
    induction l with
    | nil => simp
    | cons a l ih =>
      by_cases h : a = e
      · subst h; rw [List.filter_cons_of_neg (by simp), List.filter_cons_of_pos hL]; simp only [List.length_cons]; omega
      · cases hA : L a with
        | true => rw [List.filter_cons_of_pos (by simp [h, hA]), List.filter_cons_of_pos hA]; simpa using ih
        | false => rw [List.filter_cons_of_neg (by simp [h, hA]), List.filter_cons_of_neg (by simp [hA])]; exact ih
  induction es with
  | nil => cases he
  | cons a l ih =>
    by_cases h : a = e
    · subst h
      rw [List.filter_cons_of_neg (by simp), List.filter_cons_of_pos hL]
      have := hle l
      simp only [List.length_cons]; omega
    · have i1 := ih (by rcases List.mem_cons.1 he with h2 | h2; exact absurd h2.symm h; exact h2)
      cases hA : L a with
      | true => rw [List.filter_cons_of_pos (by simp [h, hA]), List.filter_cons_of_pos hA]; simpa using i1
      | false => rw [List.filter_cons_of_neg (by simp [h, hA]), List.filter_cons_of_neg (by simp [hA])]; exact i1
/-- 'for x := range left': the next edge. -/
theorem wpList_next_edges (w : World) {ops : Array Oper} {rest : List Oper} {o : Oper} {a : Act} {Q : Exit → Act → World → Prop} (hg : o.guard = none) (it : Operand) (hop : o.op = Op.next it false) (b r n : Nat) (D : DataW Unit) (L : Int × Int → Bool)
    (hD : EMap D L) (left : Lit → Bool) (cnt : Nat) (hit : a.eval it = .pointer (some ⟨r, 0, none⟩)) (h : w.ranges Try.prog 37 (plainElem Try.prog 4) b r n D left cnt)
    (hDone : cnt = 0 → (∀ kl, left kl = false) → wpList Try.prog ops Q rest (a.put o.dst (.tuple #[.bool false])) w)
    (hMore : ∀ (x : Int × Int) (w' : World) (cnt' : Nat), OkE x → left (KL x) = true → L x = true → w'.ranges Try.prog 37 (plainElem Try.prog 4) b r n D (fun z => left z && !z.sameKey (KL x)) cnt' → cnt' < cnt →
      w.grownBy w' (some r) → w'.heap.size = w.heap.size → (Instr.entry (.pointer (some ⟨r, 0, none⟩))).run Try.prog w' = .ok (.tuple #[edgeV x, .bool true]) w' → wpList Try.prog ops Q rest (a.put o.dst (.tuple #[.bool true, edgeV x, .bool true])) w') :
    wpList Try.prog ops Q (o :: rest) a w :=
  wpList_next_ranges w hg it hop 37 edge_keyed (plainElem Try.prog 4) edgeV Value.bool (fun key kl hkey => by obtain ⟨x, h1, _⟩ := keyOf_edge_inv hkey; exact ⟨x, h1⟩)
    (fun v y hv => by obtain ⟨c, rfl, _⟩ := plainElem_bool_inv' Try.underlying4 hv; exact ⟨c, rfl⟩) b r n D left cnt hit h hDone
    (fun x c kl y w' cnt' hk hl hR hat hr hc hg' hs he => by
      obtain ⟨c', e1, e2⟩ := plainElem_bool_inv' Try.underlying4 hR
      injection e1 with e1
      subst e1
      subst e2
      obtain ⟨x', h1, rfl⟩ := keyOf_edge_inv hk
      have hx : x = x' := by unfold edgeV at h1; simp at h1; exact Prod.ext h1.1 h1.2
      subst hx
      have hh := has_true_of_atKey hat
      obtain ⟨e', he', hke⟩ := hD.keys _ hh
      have hxe : x = e' := by
        have := edge_keyed.inj hk (by rw [hke]; exact keyOf_ok he')
        unfold edgeV at this; simp at this; exact Prod.ext this.1 this.2
      subst hxe
      rw [(hD.at_ x he').1] at hh
      have h2 := hat (.lit (.bool false))
      rw [(hD.at_ x he').2, hh] at h2
      dsimp only at h2
      injection h2 with h2
      injection h2 with h2
      subst h2
      exact hMore x w' cnt' he' hl hh hr hc hg' hs he)
end Go.Proofs.Ytmfalafolpfhiaa
