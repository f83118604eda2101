/- A map of integers: an update at a key that is there, and the two steps of an assignment through its entry. -/
import Derived.Test.YtenhcpobncmedaaWaD
import Derived.Test.YtenhcpobncmedaaHpB
import Derived.WideKeyEntry
namespace Go
open Go.RowKit Go.Maps
set_option linter.unusedVariables false
set_option linter.unusedSimpArgs false
theorem own_tight {H : Type} {w : World} {P : Program} {k : TypeId} {R : Value → Option (DataW H × List MemPlace)} {b n : Nat} {l : List (Lit × DataW H)} (h : w.ownsMap P k R b n (.map l)) : w.ownsMap P k R b l.length (.map l) := by
  obtain ⟨es, clock, hb, F, hs, e⟩ := h
  refine ⟨es, clock, hb, F, ?_, e⟩
  injection e with e
  rw [e, length_sorted]; simp
theorem putKey_len {H : Type} {k : Lit} {d : DataW H} {l : List (Lit × DataW H)} (h : has (.map l) k = true) : (ChangeMaps.putKey k d l).length ≤ l.length := by
  unfold ChangeMaps.putKey
  rw [length_insert]
  unfold has at h
  obtain ⟨x, hx, hk⟩ := List.any_eq_true.1 h
  have : ∀ (l : List (Lit × DataW H)), x ∈ l → (l.filter (ChangeMaps.notKey k)).length + 1 ≤ l.length := by
    intro l
    induction l with
    | nil => intro h; simp at h
    | cons a l ih =>
      intro hm
      rcases List.mem_cons.1 hm with rfl | hm
      · rw [List.filter_cons_of_neg (by simp [ChangeMaps.notKey, hk])]
        have := List.length_filter_le (ChangeMaps.notKey k) l
        simp; omega
      · have h1 := ih hm
        have := List.length_filter_le (ChangeMaps.notKey k) [a]
        rw [← List.singleton_append, List.filter_append, List.length_append, List.length_append]
        simp at this ⊢; omega
  exact this l hx
namespace IntMap
variable {P : Program} {w w' : World} {k e : TypeId} {b n : Nat} {f : Int → Option Int}
theorem update_there (h : IntMap P w k e b n f) {t : TypeId} (hk : P.underlying k = some (.int .i64)) (he : P.underlying e = some (.int .i64)) (ht : P.underlying t = some (.map k e)) (hn : n < maxLen) {x y : Int} (hx : (Lit.int .i64 x).wf = true) (hy : (Lit.int .i64 y).wf = true) (hf : (f x).isSome = true) :
    ∃ w', (Instr.mapUpdate t (.map (some b)) (.int .i64 x) (.int .i64 y)).run P w = .ok () w' ∧ IntMap P w' k e b n (fun z => if z = x then some y else f z) ∧ w.grownBy w' (some b) := by
  obtain ⟨D, h1, h2, h3⟩ := h
  obtain ⟨w', hrun, r1, r2⟩ := h1.update (int_keyed hk) ht hn (keyOf_int_mk hk hx) (plainElem_int he hy)
  refine ⟨w', hrun, ⟨D.put (.int .i64 x) (.lit (.int .i64 y)), ?_, h2.put _ _, fun z => ?_⟩, r2⟩
  · have hh := (h3 x).2
    rw [hf] at hh
    obtain ⟨es, clock, hb, F, hs, rfl⟩ := h1
    have r3 := own_tight (l := ChangeMaps.putKey _ _ _) r1
    refine r3.mono (Nat.le_trans (putKey_len hh) ?_)
    rw [length_sorted]; simpa using hs
  · by_cases hz : z = x
    · subst hz
      rw [atKey_put_same h2 (by trivial), has_put_same h2 (by trivial)]
      simp
    · rw [atKey_put_other (by intro e; injection e with _ e; exact hz e), has_put_other (by intro e; injection e with _ e; exact hz e), (h3 z).1, (h3 z).2]
      simp [hz]
theorem setBlock_set (w : World) (b : Nat) (o o' : Obj) (hb : b < w.heap.size) : ChangeMaps.setBlock (ChangeMaps.setBlock w b o) b o' = ChangeMaps.setBlock w b o' := by
  simp [ChangeMaps.setBlock]
/-- 'm[x] = y' of a statement with several targets, at a key that is there: the entry, then the store. -/
theorem entry (h : IntMap P w k e b n f) {t : TypeId} (hk : P.underlying k = some (.int .i64)) (he : P.underlying e = some (.int .i64)) (ht : P.underlying t = some (.map k e)) (hz : ∀ u : World, (zeroValue e).run P u = .ok (.int .i64 0) u) (hn : n < maxLen) {x y : Int} (hx : (Lit.int .i64 x).wf = true) (hy : (Lit.int .i64 y).wf = true) (hf : (f x).isSome = true) :
    ∃ v st w1 w2, (Instr.mapEntry t (.map (some b)) (.int .i64 x)).run P w = .ok (.tuple #[v, .int .i64 st]) w1 ∧ (Instr.entryStore t (.map (some b)) (.int .i64 st) (.int .i64 y)).run P w1 = .ok () w2 ∧ IntMap P w2 k e b n (fun z => if z = x then some y else f z) ∧ w.grownBy w2 (some b) := by
  obtain ⟨w', hrun, hm, hg⟩ := h.update_there hk he ht hn hx hy hf
  obtain ⟨D, ⟨es, clock, hb, F, hs, rfl⟩, h2, h3⟩ := h
  have hlt := lt_blk hb
  have hkey := keyOf_int_mk hk hx
  obtain ⟨s1, s2, _⟩ := F.stamped
  have K := int_keyed hk
  have hset : ∀ o, (ChangeMaps.setBlock w b o).heap[b]? = some o := fun o => by simp [ChangeMaps.setBlock, hlt]
  rcases K.find w hkey es.toList F.keys with ⟨h4, h5⟩ | ⟨j, e0, h4, h5, h6⟩
  · have hidx : (es.push ⟨.int .i64 x, .int .i64 0, clock⟩).findIdx? (fun e => ((e.born : Nat) : Int) == ((clock : Nat) : Int)) = some es.size := by
      rw [WideElems.findIdx_arr]
      refine WideElems.findIdx_born (e0 := ⟨.int .i64 x, .int .i64 0, clock⟩) ?_ (by simp)
      simp only [Array.toList_push, List.map_append, List.map_cons, List.map_nil]
      refine List.nodup_append.2 ⟨s2, by simp, fun a ha c hc e1 => ?_⟩
      simp only [List.mem_singleton] at hc
      obtain ⟨q, hq, rfl⟩ := List.mem_map.1 ha
      have := s1 q hq
      omega
    refine ⟨.int .i64 0, (clock : Int), ChangeMaps.setBlock w b (.map (es.push ⟨.int .i64 x, .int .i64 0, clock⟩) (clock + 1)), w', ?_, ?_, hm, hg⟩
    · simp [Instr.mapEntry, run_underlying ht, MapKept.run_getObj_map hb, K.check w false hkey, h4, hz, MapKept.run_setObj_map _ hb, Result.andThen, ChangeMaps.setBlock, goInt]
    · simp [Instr.mapUpdate, run_underlying ht, MapKept.run_getObj_map hb, K.check w false hkey, h4, MapKept.run_setObj_map _ hb, Result.andThen, ChangeMaps.setBlock] at hrun
      have hmod : (es.push ⟨.int .i64 x, .int .i64 0, clock⟩).modify es.size (fun e => { e with val := .int .i64 y }) = es.push ⟨.int .i64 x, .int .i64 y, clock⟩ := by
        apply Array.ext'
        rw [Array.toList_modify, Array.toList_push, Array.toList_push, ← Array.length_toList, WideElems.modify_last]
      simp [Instr.entryStore, MapKept.run_getObj_map (hset _), asInt, asIntOf, hidx, hmod, MapKept.run_setObj_map _ (hset _), Result.andThen]
      rw [← hrun]
      simp [ChangeMaps.setBlock]
  · have hj : es[j]? = some e0 := by simpa using h5
    have hsame : es.modify j (fun e => { e with key := .int .i64 x }) = es := by
      apply Array.ext'
      rw [Array.toList_modify, ChangeMaps.modify_eq_set _ _ _ _ h5]
      have : ({ e0 with key := .int .i64 x } : MapEntry) = e0 := by rw [← h6]
      rw [this]
      exact WideElems.set_self _ _ _ h5
    have hidx : es.findIdx? (fun e => ((e.born : Nat) : Int) == ((e0.born : Nat) : Int)) = some j := by
      rw [WideElems.findIdx_arr]
      exact WideElems.findIdx_born s2 h5
    have hmod : es.modify j (fun e => { e with val := .int .i64 y }) = es.modify j (fun e' => { e' with key := .int .i64 x, val := .int .i64 y }) := by
      apply Array.ext'
      rw [Array.toList_modify, Array.toList_modify, ChangeMaps.modify_eq_set _ _ _ _ h5, ChangeMaps.modify_eq_set _ _ _ _ h5, ← h6]
    refine ⟨e0.val, (e0.born : Int), ChangeMaps.setBlock w b (.map es clock), w', ?_, ?_, hm, hg⟩
    · simp [Instr.mapEntry, run_underlying ht, MapKept.run_getObj_map hb, K.check w false hkey, h4, hj, h6, K.stays w hkey, hsame, MapKept.run_setObj_map _ hb, Result.andThen, ChangeMaps.setBlock, goInt]
    · simp [Instr.mapUpdate, run_underlying ht, MapKept.run_getObj_map hb, K.check w false hkey, h4, hj, h6, K.stays w hkey, MapKept.run_setObj_map _ hb, Result.andThen, ChangeMaps.setBlock] at hrun
      simp [Instr.entryStore, MapKept.run_getObj_map (hset _), asInt, asIntOf, hidx, hmod, MapKept.run_setObj_map _ (hset _), Result.andThen]
      rw [← hrun]
      simp [ChangeMaps.setBlock]
end IntMap
end Go
