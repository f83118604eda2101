/- Over any checked program: a law whose row lists package variables (a card's row), with or without a condition on its arguments, from a contract on 'Calls'; records of a slice with their data. -/
import Derived.Test.YtdgjcjhdclihpaaDoorLaw
import Derived.Test.YtdgjcjhdclihpaaDoorRecs
import Derived.Deep.DeepHandedRow
import Derived.Lay
import Derived.LaidMore
import Derived.Stop.Joined
import Derived.Deep.Slices
namespace Go
open Go.ChangeShapes Go.WideShapes Go.ChangeAt Go.RowKit Go.Deep
set_option linter.unusedVariables false
section
variable {H : Type} {enc : TypeId × Value → H}
/-- A world that fits, by its shape. -/
theorem witness_row_shaped {C : Checked} {os : Os} {f : FuncId} {fn : Func} {s : OpenSpec} {conds : List PathCond} {apart : Bool} {laid : List (String × DataW Unit)} (w0 : World) (args : Array Value) (hos : w0.os = os)
    (hsh : (w0.forCall (fun _ _ => 0) ⟨#[], args, []⟩).Shaped C.prog)
    (hok : Input.okWideB C.prog (w0.forCall (fun _ _ => 0) ⟨#[], args, []⟩) f ⟨#[], args, []⟩ = true)
    (hrow : s.preRow enc C.prog fn conds apart laid (w0.forCall (fun _ _ => 0) ⟨#[], args, []⟩).memory args) :
    ∃ (w : World) (tape : Tape) (i : Input), w.os = os ∧ (w.forCall tape i).Shaped C.prog ∧ i.vars = [] ∧ Input.okWide C.prog (w.forCall tape i) .any w.heap.size f i ∧
      s.preRow enc C.prog fn conds apart laid (w.forCall tape i).memory i.args ∧ ({} : Assume).holds C.prog (lone (Frame.enter C.prog f i.args .normal) [] (w.forCall tape i)) :=
  ⟨w0, fun _ _ => 0, ⟨#[], args, []⟩, hos, hsh, (Input.okWide_of_okWideB (base := 0) hok).1, (Input.okWide_of_okWideB hok).2, hrow, by
    simp only [Assume.holds]
    exact ⟨by simp, by simp, by simp, by simp, by simp⟩⟩
theorem law_lifted_row {C : Checked} {os : Os} {f : FuncId} {fn : Func} {s : OpenSpec} {F : Stop.Interp} {laid : List (String × DataW Unit)} {tb : TypeId}
    (own : ownKnob C.prog.godebug = none) (started : os.Started) (noInit : C.prog.inits.idxOf? f = none) (hfn : C.prog.funcs[f]? = some fn)
    (witness : ∃ (w : World) (tape : Tape) (i : Input), w.os = os ∧ (w.forCall tape i).Shaped C.prog ∧ i.vars = [] ∧ Input.okWide C.prog (w.forCall tape i) .any w.heap.size f i ∧
      s.preRow enc C.prog fn [] false laid (w.forCall tape i).memory i.args ∧ ({} : Assume).holds C.prog (lone (Frame.enter C.prog f i.args .normal) [] (w.forCall tape i)))
    (hl : laidOutB C.prog = true) (hpar : paramsFine C.prog fn = true) (hvars : s.vars = []) (hsp : ∀ ds : List (DataW H), ds.length = fn.params.size → s.fn F H ds = { results := [.lit (.bool true)], args := ds })
    (hres : fn.resultTypes = #[tb]) (hbool : C.prog.underlying tb = some .bool)
    (contract : ∀ (W : World) (base : Nat) (args : Array Value) (ds : List (DataW H)) (ps : List MemPlace),
      (∀ (j : Nat) t v, fn.params[j]? = some t → args[j]? = some v → Value.okWide C.prog W .any base t v) →
      DataW.TrodAll enc C.prog W 0 (fun _ => true) true fn.params.toList args.toList ds ps → W.noneFrozen ps →
      (DataW.weightsEach C.prog fn.params.toList ds).all (· ≤ reachBytes) = true → (∀ k, s.cond = some k → k H ds = true) → laidMetH C.prog laid W → W.ShapedOpen C.prog →
      Calls C.prog f args W fun e W' => e = .returned (.bool true) ∧ Below W.heap.size W W') :
    ReturnsInHanded {} C os f .any (s.preRow enc C.prog fn [] false laid) ((s.at F).post enc C.prog fn false true false false) := by
  refine returnsInHanded_of_row own started noInit hfn witness ?_
  intro W base args ds gs before hval hW hcnd hkk hsz hlaid hsh _
  have hW' := hW
  have hlt : ∀ x ∈ before, x.block < W.heap.size := fun x hx => hW'.lt x hx
  obtain ⟨p, q, hA, hV, rfl, hfz, hnd⟩ := hW
  rw [hvars] at hV
  obtain ⟨rfl, rfl⟩ := trodVars_none hV
  have hvt : s.bare.plain.varTypes C.prog = [] := by
    have : s.bare.plain.vars = [] := hvars
    simp [DataSpec.varTypes, this]
  rw [hvt, List.append_nil, List.append_nil] at hsz
  rw [List.append_nil] at hkk
  have hlen : ds.length = fn.params.size := by
    have : ∀ (ts : List TypeId) (vs : List Value) (ds : List (DataW H)) (ps : List MemPlace), DataW.TrodAll enc C.prog W 0 (fun _ => true) true ts vs ds ps → ds.length = ts.length := by
      intro ts
      induction ts with
      | nil => intro vs ds ps h; cases vs <;> cases ds <;> simp_all [DataW.TrodAll]
      | cons t ts ih =>
        intro vs ds ps h
        match vs, ds, h with
        | v :: vs, d :: ds, h => obtain ⟨_, _, _, h2, _⟩ := h; simp [ih vs ds _ h2]
        | [], _, h => simp [DataW.TrodAll] at h
        | _ :: _, [], h => simp [DataW.TrodAll] at h
    simpa using this _ _ _ _ hA
  refine (contract W base args ds p hval hA (by rw [List.append_nil] at hfz; exact hfz) hsz hkk hlaid hsh).mono fun e W' ⟨he, hb⟩ => ?_
  subst he
  have hfn' : (s.at F).fn H ds = { results := [.lit (.bool true)], args := ds } := hsp ds hlen
  have hvars' : (s.at F).vars = [] := hvars
  refine ⟨_, rfl, ds, [], p ++ [], [], p, [], hW', ?_, ?_, ?_, hb.frame _, fun h => by cases h⟩
  · rw [List.append_nil, hfn', hres]
    exact trodAll_mk1 (shut_bool hbool _)
  · rw [List.append_nil, hfn']
    refine below_trodAll hl hb _ _ _ _ (fun t ht => ?_) hA (fun x hx => hlt x (by simp [hx]))
    have := List.all_eq_true.1 hpar t ht
    simpa using this
  · rw [hvars', List.append_nil, hfn']; rfl
end
section
variable {H : Type} {enc : TypeId × Value → H} {P : Program} {w : World} {base : Nat} {held : Bool}
/-- A slice of records, opened; 'ok' binds each element's datum and its reading. -/
theorem open_recs_d {T : Type} (z : T) {cl : T → List Value} {s : Nat} (hs : ∀ r, (cl r).length = s) (h0 : 0 < s) (ok : DataW H → T → Prop) {t e : TypeId} {fuel : Nat} {v : Value} {x : DataW H × List MemPlace}
    (ht : P.underlying t = some (.slice e)) (hC : P.cellsOf e = s)
    (hel : ∀ (fu : Nat) (cs : List Value) (y : DataW H × List MemPlace), DataW.trod enc P w base (fun _ => true) held fu e cs = some y → cs.length = s → ∃ r : T, cs = cl r ∧ ok y.1 r)
    (h : DataW.trod enc P w base (fun _ => true) held fuel t [v] = some x) :
    ∃ A n c rs, v = .slice A n c ∧ RS cl s w w.heap.size A n rs ∧ n ≤ c ∧ c ≤ maxLen ∧ ((x.1 = .nil ∧ n = 0) ∨ ∃ el sp, x.1 = .slice el sp ∧ el.length = n ∧ ∀ r ∈ rs, ∃ d ∈ el, ok d r) := by
  rcases open_slice ht h with ⟨hcs, rfl⟩ | ⟨a, len, cap, m, n, D, Pl, hcs, _, hl, hm, hmm, rfl, hi⟩
  · simp at hcs
    exact ⟨none, 0, 0, [], hcs, ⟨Reads.none_, rfl⟩, Nat.le_refl _, by simp, .inl ⟨rfl, rfl⟩⟩
  · simp at hcs
    simp only [if_true] at hmm
    subst hmm
    rw [hC] at hi
    have hch : ∀ i, ∃ r : T, i < len → ok (D i) r ∧ ∀ j, j < s → w.cell? ((a.add (i * s)).add j) = (cl r)[j]? := by
      intro i
      by_cases hil : i < len
      · obtain ⟨cs', hc, ht'⟩ := hi i (by omega)
        obtain ⟨r, rfl, hr⟩ := hel _ _ _ ht' (World.cells?_some hc).2.1
        exact ⟨r, fun _ => ⟨hr, (World.cells?_some hc).2.2⟩⟩
      · exact ⟨z, fun h => absurd h hil⟩
    obtain ⟨f, hf⟩ := Classical.axiomOfChoice hch
    refine ⟨some a, len, m, (List.range len).map f, hcs, ⟨⟨by rw [flatR_len hs]; simp, fun hn => ?_⟩, by simp⟩, hl, hm, .inr ⟨_, _, rfl, by simp, fun r hr => ?_⟩⟩
    · have hc0 := (hf 0 hn).2 0 h0
      have hcl0 : (cl (f 0))[0]? = some ((cl (f 0))[0]'(by rw [hs]; exact h0)) := List.getElem?_eq_getElem _
      obtain ⟨b, o, sp⟩ := a
      have hsp : sp = none := by simpa [Addr.add] using World.cell?_spot (hc0.trans hcl0)
      subst hsp
      have hlt : b < w.heap.size := World.block_lt_of_cell? w _ (by have := hc0.trans hcl0; rw [add_plain, add_plain] at this; exact this)
      refine ⟨b, o, rfl, hlt, fun j u hu => ?_⟩
      obtain ⟨hq, hu'⟩ := flatR_cells hs h0 f len j u hu
      have := (hf (j / s) hq).2 (j % s) (Nat.mod_lt _ h0)
      rw [add_plain, add_plain] at this
      rw [← hu', ← this]
      congr 2
      have := Nat.div_add_mod j s
      rw [Nat.mul_comm] at this
      omega
    · obtain ⟨i, hi', rfl⟩ := List.mem_map.1 hr
      have hil : i < len := by simpa using hi'
      exact ⟨D i, List.mem_map.2 ⟨i, by simpa using hil, rfl⟩, (hf i hil).1⟩
end
end Go
