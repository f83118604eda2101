/- Append onto a slice of the call's own, the fitting capacity as a condition; a bound on the way's length. -/
import Derived.Test.YtmfalafolpfhiaaRrC
namespace Go
open Go.RowKit
set_option linter.unusedVariables false
theorem run_append_rowF {P : Program} (w : World) (base : Nat) (t ty e : TypeId) (i : TypeInfo) (z : Value) (size bytes : Nat) (ht : P.underlying t = some (.slice e)) (hi : P.info? e = some i) (hz : i.zero = some z)
    (hsize : i.size = size) (hby : i.bytes = bytes) (hzs : z.cells.size = size) (hsz : 0 < size)
    (v : Value) (n : Nat) (xs : List Value) (hown : Row w base e size v n xs)
    (B : Nat) (A : Option Addr) (m c : Nat) (news : List Value) (hr : Reads w B size A m news) (h1 : ∀ u ∈ news, u.oneCell' = true)
    (h63 : n + m ≤ maxLen) (hnil : m * bytes ≤ 281474976710656) (hbytes : ∀ old, n ≤ old → old < n + m → Builtin.nextslicecap (n + m) old * bytes ≤ 281474976710656) (hbase : base ≤ w.heap.size) :
    ∃ v' w', (Builtin.append_ #[t, t] ty #[v, .slice A m c]).run P w = .ok v' w' ∧ Row w' base e size v' (n + m) (xs ++ news) ∧ w.grownBy w' v.ownBlock ∧
      (v'.ownBlock = v.ownBlock ∨ v'.ownBlock = some w.heap.size) ∧ (v' = .slice none 0 0 ↔ v = .slice none 0 0 ∧ m = 0) := by
  subst hsize
  subst hby
  have hlen : (xs ++ news).length = (n + m) * i.size := by rw [List.length_append, hown.1, hr.1, Nat.add_mul]
  have hsmall : n + m ≤ 9223372036854775807 := by simp only [maxLen] at h63; omega
  have grown : ∀ (old : Nat), old < n + m → ∀ (row : Option Nat),
      Row (w.drew.alloc (.cells (xs.toArray ++ news.toArray ++ Builtin.zeroCells z.cells (grownCap w (n + m) old e - (n + m))) e)) base e i.size
        (.slice (some ⟨w.heap.size, 0, none⟩) (n + m) (grownCap w (n + m) old e)) (n + m) (xs ++ news) ∧
      w.grownBy (w.drew.alloc (.cells (xs.toArray ++ news.toArray ++ Builtin.zeroCells z.cells (grownCap w (n + m) old e - (n + m))) e)) row := by
    intro old ho row
    have hge := grownCap_ge w (n + m) old e
    have hcm : grownCap w (n + m) old e ≤ maxLen := grownCap_le_maxLen w (n + m) old e h63
    refine ⟨⟨hlen, .inr ⟨w.heap.size, 0, _, _, rfl, hbase, heap_alloc_new w.drew _, hge, hcm, ?_, fun j u hu => ?_⟩⟩, ⟨rfl, rfl, rfl, by simp, fun k hk _ => heap_alloc_old w.drew _ hk⟩⟩
    · simp only [Array.size_append, List.size_toArray, size_zeroCells, hzs, hown.1, hr.1, ← Nat.add_mul]
      rw [Nat.zero_add]
      exact Nat.le_of_eq (by congr 1; omega)
    · have hj : j < (xs ++ news).length := (List.getElem?_eq_some_iff.1 hu).1
      rw [Nat.zero_add, Array.getElem?_append_left (by simpa using hj)]
      simpa using hu
  rcases Nat.eq_zero_or_pos m with h0 | h0
  · subst h0
    have hn : news = [] := List.eq_nil_of_length_eq_zero (by simpa using hr.1)
    subst hn
    refine ⟨v, w, ?_, by simpa using hown, World.grownBy.refl w _, .inl rfl, by simp⟩
    rcases hown.2 with ⟨rfl, rfl⟩ | ⟨g, o, cap, cur, rfl, _, hg, hnc, _⟩
    · cases A <;> simp [Builtin.append_, run_underlying ht, sizeOf, typeInfo, hi, Builtin.lenOf, Builtin.firstCells, loadCells, loadCellsFrom]
    · cases A <;> simp [Builtin.append_, run_underlying ht, sizeOf, typeInfo, hi, Builtin.lenOf, Builtin.firstCells, hnc, storeCells, loadCells, loadCellsFrom]
  · obtain ⟨b, o', rfl, _, hc⟩ := hr.2 h0
    have hnews : ∀ j u, news[j]? = some u → w.cell? ((⟨b, o', none⟩ : Addr).add j) = some u := fun j u hu => by rw [add_plain]; exact hc j u hu
    rcases hown.2 with ⟨rfl, rfl⟩ | ⟨g, o, cap, cur, rfl, hbg, hg, hnc, hcm, hcs, hx⟩
    · have hxs : xs = [] := List.eq_nil_of_length_eq_zero (by simpa using hown.1)
      subst hxs
      have hru := run_append_nil (P := P) w t ty e i z ht hi hz ⟨b, o', none⟩ m c news hr.1 hnews h0 (by omega) hnil
      have hgr := grown 0 (by omega) (Value.ownBlock (.slice none 0 0))
      simp only [Nat.zero_add, List.nil_append, Array.empty_append] at hgr ⊢
      exact ⟨_, _, hru, hgr.1, hgr.2, .inr rfl, by simp; omega⟩
    · by_cases hroom : n + m ≤ cap
      · have hfit : o + n * i.size + news.length ≤ cur.size := by
          have : (n + m) * i.size ≤ cap * i.size := Nat.mul_le_mul_right _ hroom
          rw [Nat.add_mul] at this
          rw [hr.1]; omega
        have hf := run_firstCells_some (P := P) w i.size m ⟨b, o', none⟩ m c news hr.1 hnews
        have hst := run_storeCells_at P g (o + n * i.size) e news 0 cur w hg (by simpa using hfit) h1
        simp only [Nat.add_zero] at hst
        have hru : (Builtin.append_ #[t, t] ty #[.slice (some ⟨g, o, none⟩) n cap, .slice (some ⟨b, o', none⟩) m c]).run P w =
            .ok (.slice (some ⟨g, o, none⟩) (n + m) cap) (w.setRow g (cur.toList.take (o + n * i.size) ++ news ++ cur.toList.drop (o + n * i.size + news.length)).toArray) := by
          simp [Builtin.append_, run_underlying ht, sizeOf, typeInfo, hi, Builtin.lenOf, hroom, hf, add_plain, hst]
        refine ⟨_, _, hru, ⟨hlen, .inr ⟨g, o, cap, _, rfl, hbg, setRow_heap w g cur _ e _ hg, hroom, hcm, ?_, fun j u hu => ?_⟩⟩, ⟨rfl, rfl, rfl, by simp, fun k _ hk => setRow_other w g k _ (fun e => hk (by simp [Value.ownBlock, e]))⟩, .inl rfl, by simp⟩
        · simp only [List.size_toArray, List.length_append, List.length_take, List.length_drop, Array.length_toList]
          omega
        · have hl1 : (cur.toList.take (o + n * i.size)).length = o + n * i.size := by rw [List.length_take, Array.length_toList]; omega
          rw [List.getElem?_toArray, List.append_assoc]
          by_cases hj : j < xs.length
          · rw [List.getElem?_append_left hj] at hu
            have := hx j u hu
            rw [List.getElem?_append_left (by rw [hl1]; have := hown.1; omega), List.getElem?_take, if_pos (by have := hown.1; omega)]
            simpa using this
          · rw [List.getElem?_append_right (by omega)] at hu
            have hxl := hown.1
            have hjn : j - xs.length < news.length := (List.getElem?_eq_some_iff.1 hu).1
            rw [List.getElem?_append_right (by rw [hl1]; omega), hl1, List.getElem?_append_left (by omega)]
            rw [← hu]; congr 1; omega
      · have holds : ∀ j u, xs[j]? = some u → w.cell? ((⟨g, o, none⟩ : Addr).add j) = some u := fun j u hu => by
          rw [add_plain, cell_of_row w g (o + j) cur e (0, 0) hg]
          exact hx j u hu
        have hru := run_append_grow (P := P) w t ty e i z ht hi hz ⟨g, o, none⟩ n cap xs hown.1 holds ⟨b, o', none⟩ m c news hr.1 hnews (by omega) (by omega) (hbytes cap (by omega) (by omega))
        have hgr := grown cap (by omega) (Value.ownBlock (.slice (some ⟨g, o, none⟩) n cap))
        exact ⟨_, _, hru, hgr.1, hgr.2, .inr rfl, by simp⟩
theorem wpList_append_rowF {P : Program} (w : World) {ops : Array Oper} {rest : List Oper} {o : Oper} {a : Act} {Q : Exit → Act → World → Prop} (hgd : o.guard = none) (s x : Operand) (t : TypeId)
    (ho : o.op = .call { callee := .builtin .append, args := #[s, x], argTypes := #[t, t] })
    (base : Nat) (e : TypeId) (i : TypeInfo) (z : Value) (size bytes : Nat) (ht : P.underlying t = some (.slice e)) (hi : P.info? e = some i) (hz : i.zero = some z)
    (hsize : i.size = size) (hby : i.bytes = bytes) (hzs : z.cells.size = size) (hsz : 0 < size)
    (v : Value) (n : Nat) (xs : List Value) (hs : a.eval s = v) (hown : Row w base e size v n xs)
    (B : Nat) (A : Option Addr) (m c : Nat) (news : List Value) (hx : a.eval x = .slice A m c) (hr : Reads w B size A m news) (h1 : ∀ u ∈ news, u.oneCell' = true)
    (h63 : n + m ≤ maxLen) (hnil : m * bytes ≤ 281474976710656) (hbytes : ∀ old, n ≤ old → old < n + m → Builtin.nextslicecap (n + m) old * bytes ≤ 281474976710656) (hbase : base ≤ w.heap.size)
    (h : ∀ A' c' w', Row w' base e size (.slice A' (n + m) c') (n + m) (xs ++ news) → w.grownBy w' v.ownBlock → ((Value.slice A' (n + m) c').ownBlock = v.ownBlock ∨ (Value.slice A' (n + m) c').ownBlock = some w.heap.size) → wpList P ops Q rest (a.put o.dst (.slice A' (n + m) c')) w') : wpList P ops Q (o :: rest) a w :=
  wpList_plain hgd fun K hK => by
    obtain ⟨v', w', hrun, h2, h3, h4, _⟩ := run_append_rowF (P := P) w base t o.type e i z size bytes ht hi hz hsize hby hzs hsz v n xs hown B A m c news hr h1 h63 hnil hbytes hbase
    unfold Oper.wp execOp
    simp only [ho, resolve, invoke, builtin, Sem.run_bind, Sem.run_pure, Result.andThen_ok, List.map_toArray, List.map_cons, List.map_nil, hs, hx, hrun]
    obtain ⟨A', c', rfl, _, _⟩ := h2.shape
    exact hK _ _ (h A' c' w' h2 h3 h4)
theorem nextcap_one {n : Nat} : Builtin.nextslicecap (n + 1) n ≤ n + n / 4 + 512 := by
  unfold Builtin.nextslicecap
  split
  · omega
  · split
    · omega
    · rw [growBy_four]
      repeat' split
      all_goals omega
end Go
namespace Go.Proofs.Ytmfalafolpfhiaa
open Go.RowKit Go.Maps
set_option maxHeartbeats 400000
set_option linter.unusedVariables false
set_option linter.unusedSimpArgs false
theorem fit_one {n : Nat} (hn : n ≤ 26388279066624) : ∀ old, n ≤ old → old < n + 1 → Builtin.nextslicecap (n + 1) old * 8 ≤ 281474976710656 := fun old h1 h2 => by
  obtain rfl : old = n := by omega
  have := nextcap_one (n := old)
  omega
/-- How many edges begin at what is not met. -/
def cntU (es : List (Int × Int)) (f : Nat → Bool) : Nat := (es.filter (fun e => !f e.1.toNat)).length
theorem cntU_le (es : List (Int × Int)) (f : Nat → Bool) : cntU es f ≤ es.length := List.length_filter_le _ _
theorem cntU_set {es : List (Int × Int)} {f : Nat → Bool} {o : Nat} (hf : f o = false) : (behind es o es.length).length + cntU es (setB f o) ≤ cntU es f := by
  unfold behind cntU
  rw [List.length_map, List.take_length]
  induction es with
  | nil => simp
  | cons e es ih =>
    by_cases h1 : e.1 = (o : Int)
    · have h2 : e.1.toNat = o := by omega
      have h3 : setB f o e.1.toNat = true := by simp [setB, h2]
      rw [List.filter_cons_of_pos (by simpa using h1), List.filter_cons_of_neg (by simp [h3]), List.filter_cons_of_pos (by rw [h2]; simp [hf])]
      simp only [List.length_cons]
      omega
    · rw [List.filter_cons_of_neg (by simpa using h1)]
      by_cases h4 : e.1.toNat = o
      · have h3 : setB f o e.1.toNat = true := by simp [setB, h4]
        rw [List.filter_cons_of_neg (by simp [h3]), List.filter_cons_of_pos (by rw [h4]; simp [hf])]
        simp only [List.length_cons]
        omega
      · have h3 : setB f o e.1.toNat = f e.1.toNat := by simp [setB, h4]
        cases hq : f e.1.toNat with
        | true => rw [List.filter_cons_of_neg (by simp [h3, hq]), List.filter_cons_of_neg (by simp [hq])]; exact ih
        | false => rw [List.filter_cons_of_pos (by simp [h3, hq]), List.filter_cons_of_pos (by simp [hq])]; simp only [List.length_cons]; omega
theorem unmet_ext {f g : Nat → Bool} (h : ∀ k, k < 64 → f k = g k) : unmet f = unmet g := by
  unfold unmet
  congr 1
  apply List.filter_congr
  intro k hk
  rw [h k (by simpa using hk)]
/-- The marks that a block holds. -/
def marks (g : Nat) (w : World) : Nat → Bool := fun k => (match w.cell? ⟨g, k, none⟩ with | some (.bool b) => b | _ => false)
theorem Arr64.marks {w : World} {g : Nat} {f : Nat → Bool} (h : Arr64 w g f) : unmet (marks g w) = unmet f := unmet_ext fun k hk => by
  unfold Ytmfalafolpfhiaa.marks
  rw [(row_cell h hk).1]
open Classical in
/-- What is come to, as marks. -/
noncomputable def rchB (es : List (Int × Int)) (fs : List Int) : Nat → Bool := fun k => decide (Rch es fs (k : Int))
theorem rchB_mk (es : List (Int × Int)) (fs : List Int) (h1 : ∀ n ∈ fs, OkN n) (h2 : ∀ e ∈ es, OkE e) (n : Int) : Mk64 (rchB es fs) n ↔ Rch es fs n := by
  constructor
  · rintro ⟨k, _, h, rfl⟩; simpa [rchB] using h
  · intro h
    obtain ⟨a, b⟩ := Rch.ok h1 h2 h
    refine ⟨n.toNat, by omega, ?_, by omega⟩
    have : ((n.toNat : Nat) : Int) = n := by omega
    simp [rchB, this, h]
open Classical in
noncomputable def reachErr (es : List (Int × Int)) (fs : List Int) : Int := if (∀ n ∈ fs, OkN n) ∧ ∀ e ∈ es, OkE e then 0 else 1
open Classical in
noncomputable def reachL (es : List (Int × Int)) (fs : List Int) : List Int := if (∀ n ∈ fs, OkN n) ∧ ∀ e ∈ es, OkE e then outL (rchB es fs) 64 else []
/-- What both answer. -/
def ReachPost (w : World) (es : List (Int × Int)) (fs : List Int) (e : Ending) (w' : World) : Prop :=
  ∃ v, e = .returned (.tuple #[v, .int .i64 (reachErr es fs)]) ∧ Row w' w.heap.size 3 1 v (reachL es fs).length ((reachL es fs).map (Value.int .i64)) ∧ Below w.heap.size w w'
theorem reach_bad {w w' : World} {es : List (Int × Int)} {fs : List Int} {e : Ending} (h : ¬ ((∀ n ∈ fs, OkN n) ∧ ∀ e ∈ es, OkE e)) (he : e = .returned (.tuple #[.slice none 0 0, .int .i64 1])) (hb : Below w.heap.size w w') : ReachPost w es fs e w' := by
  refine ⟨.slice none 0 0, ?_, ?_, hb⟩
  · rw [he, reachErr, if_neg h]
  · rw [reachL, if_neg h]; exact Row.nil _ _ _ _
theorem reach_good {w w' : World} {es : List (Int × Int)} {fs : List Int} {f : Nat → Bool} {e : Ending} {v : Value} (h : (∀ n ∈ fs, OkN n) ∧ ∀ e ∈ es, OkE e) (hf : ∀ n, Mk64 f n ↔ Rch es fs n) (he : e = .returned (.tuple #[v, .int .i64 0]))
    (hr : Row w' w.heap.size 3 1 v (outL f 64).length ((outL f 64).map (Value.int .i64))) (hb : Below w.heap.size w w') : ReachPost w es fs e w' := by
  have e1 : reachL es fs = outL f 64 := by
    rw [reachL, if_pos h]
    exact outL_ext fun n => (rchB_mk es fs h.1 h.2 n).trans (hf n).symm
  refine ⟨v, ?_, by rw [e1]; exact hr, hb⟩
  rw [he, reachErr, if_pos h]
end Go.Proofs.Ytmfalafolpfhiaa
