/- Plain law of putting parts together: words with their needs, bytes, addresses. -/
import Derived.Test.YtmndmdipjfblhaaBpF
import Derived.Test.YtmndmdipjfblhaaObD
import Derived.Laws.CopyOwn
namespace Go.Proofs.Ytmndmdipjfblhaa
open Go.RowKit
set_option maxHeartbeats 400000
set_option linter.unusedVariables false
set_option linter.unusedSimpArgs false
/-- A part with its words and its bytes. -/
structure Fo where
  o : Ob
  ws : List Int
  bs : List Int
def Fo.zero : Fo := ⟨.zero, [], []⟩
def Fo.cells (f : Fo) : List Value := f.o.cells
def Nd.key (d : Nd) : List UInt8 := d.s.data.toList
/-- The address of a name: the last place that has it. -/
def adr (pl : List En) (k : List UInt8) : Option Int := ((pl.filter fun x => x.key == k).getLast?).map En.ad
theorem adr_nil (k : List UInt8) : adr [] k = none := rfl
theorem adr_snoc {pl : List En} {i : Nat} {x : En} (h : pl[i]? = some x) (k : List UInt8) : adr (pl.take (i + 1)) k = if k = x.key then some x.ad else adr (pl.take i) k := by
  rw [take_snoc_en h]
  unfold adr
  rw [List.filter_append]
  by_cases hk : k = x.key
  · subst hk; simp
  · rw [if_neg hk]
    have : List.filter (fun y => y.key == k) [x] = [] := by simp; exact fun e => hk e.symm
    rw [this]; simp
theorem adr_mem {pl : List En} {k : List UInt8} {a : Int} (h : adr pl k = some a) : ∃ x ∈ pl, x.key = k ∧ x.ad = a := by
  unfold adr at h
  obtain ⟨x, hx, rfl⟩ := Option.map_eq_some_iff.1 h
  have := List.mem_of_getLast? hx
  rw [List.mem_filter] at this
  exact ⟨x, this.1, by simpa using this.2, rfl⟩
/-- What asm.Place answers where nothing is out of bounds. -/
def plW (w k a to : Int) : Int := if k = 3 then to else if k = 1 then w - w % 65536 + (to - a) % 65536 else w - w % 65536 + to % 65536
theorem plW_rng {w k a to : Int} (hw : 0 ≤ w ∧ w < 4294967296) (hto : 0 ≤ to ∧ to ≤ 20000) : 0 ≤ plW w k a to ∧ plW w k a to < 4294967296 := by
  unfold plW; split
  · omega
  · split <;> omega
/-- Needs such as may be. -/
structure NdsFit (lc : Nat) (ds : List Nd) : Prop where
  fit : ∀ d ∈ ds, 1 ≤ d.k ∧ d.k ≤ 3 ∧ 0 ≤ d.ad ∧ d.ad < 4 * (lc : Int) ∧ d.ad % 4 = 0
  inc : ds.Pairwise fun a b => a.ad < b.ad
theorem nds_fit {lc : Nat} : ∀ (ds : List Nd) (last : Int), ndsErr lc last ds = 0 → NdsFit lc ds ∧ ∀ d ∈ ds, last < d.ad
  | [], last, _ => ⟨⟨fun d hd => by simp at hd, List.Pairwise.nil⟩, fun d hd => by simp at hd⟩
  | d :: ds, last, h => by
    unfold ndsErr at h
    split at h
    · rename_i hb
      obtain ⟨⟨h1, h2⟩, h3⟩ := nds_fit ds d.ad h
      unfold ndB at hb
      rw [Bool.and_eq_true, decide_eq_true_eq] at hb
      obtain ⟨_, k1, k2, k3, k4, k5, k6⟩ := hb
      refine ⟨⟨fun x hx => ?_, List.pairwise_cons.2 ⟨h3, h2⟩⟩, fun x hx => ?_⟩
      · rcases List.mem_cons.1 hx with rfl | hx
        · exact ⟨k1, k2, k3, k4, k5⟩
        · exact h1 x hx
      · rcases List.mem_cons.1 hx with rfl | hx
        · exact k6
        · have := h3 x hx; omega
    · cases h
theorem obj_nds {o : Ob} (h : objErr o = 0) : NdsFit o.n0 o.ds := by
  unfold objErr at h
  split at h
  · cases h
  · split at h
    · exact (nds_fit _ _ h).1
    · rename_i e; exact absurd h e
/-- The need of word k. -/
def ndAt (ds : List Nd) (k : Nat) : Option Nd := ds.find? fun d => d.ad == 4 * (k : Int)
theorem ndAt_succ {ds : List Nd} {j : Nat} {d : Nd} (h : ds[j]? = some d) (k : Nat) : ndAt (ds.take (j + 1)) k = (ndAt (ds.take j) k).or (if d.ad = 4 * (k : Int) then some d else none) := by
  obtain ⟨hk, rfl⟩ := List.getElem?_eq_some_iff.1 h
  rw [List.take_succ_eq_append_getElem hk]
  unfold ndAt
  rw [List.find?_append]
  congr 1
  by_cases e : ds[j].ad = 4 * (k : Int) <;> simp [e]
theorem ndAt_take {lc : Nat} {ds : List Nd} (hf : NdsFit lc ds) {j k : Nat} {d : Nd} (h : ds[j]? = some d) (hk : d.ad = 4 * (k : Int)) : ndAt (ds.take j) k = none := by
  obtain ⟨hj, rfl⟩ := List.getElem?_eq_some_iff.1 h
  unfold ndAt
  rw [List.find?_eq_none]
  intro x hx he
  obtain ⟨i, hi, rfl⟩ := List.getElem_of_mem hx
  rw [List.length_take] at hi
  rw [List.getElem_take] at he
  have := List.pairwise_iff_getElem.1 hf.inc i j (by omega) hj (by omega)
  simp at he; omega
def wv (ad : List UInt8 → Option Int) (beg : Nat) (ds : List Nd) (ws : List Int) (k : Nat) : Int :=
  match ndAt ds k with
  | some d => plW (ws.getD k 0) d.k (beg + d.ad) ((ad d.key).getD 0)
  | none => ws.getD k 0
def wvs (ad : List UInt8 → Option Int) (beg : Nat) (ds : List Nd) (ws : List Int) : List Int := (List.range ws.length).map (wv ad beg ds ws)
theorem wvs_len (ad : List UInt8 → Option Int) (beg : Nat) (ds : List Nd) (ws : List Int) : (wvs ad beg ds ws).length = ws.length := by simp [wvs]
theorem wvs_nil (ad : List UInt8 → Option Int) (beg : Nat) (ws : List Int) : wvs ad beg [] ws = ws := by
  refine List.ext_getElem (by simp [wvs]) fun i h1 h2 => ?_
  simp [wvs, wv, ndAt, List.getD, List.getElem?_eq_getElem h2]
theorem wvs_getD {ad : List UInt8 → Option Int} {beg : Nat} {ds : List Nd} {ws : List Int} {k : Nat} (hk : k < ws.length) : (wvs ad beg ds ws).getD k 0 = wv ad beg ds ws k := by
  have : k < (wvs ad beg ds ws).length := by rw [wvs_len]; exact hk
  simp [List.getD, wvs, List.getElem?_range hk]
theorem wv_old {lc : Nat} {ad : List UInt8 → Option Int} {beg : Nat} {ds : List Nd} {ws : List Int} (hf : NdsFit lc ds) {j k : Nat} {d : Nd} (h : ds[j]? = some d) (hk : d.ad = 4 * (k : Int)) : wv ad beg (ds.take j) ws k = ws.getD k 0 := by
  unfold wv; rw [ndAt_take hf h hk]
theorem wv_hit {lc : Nat} {ad : List UInt8 → Option Int} {beg : Nat} {ds : List Nd} {ws : List Int} (hf : NdsFit lc ds) {j k : Nat} {d : Nd} (h : ds[j]? = some d) (hk : d.ad = 4 * (k : Int)) : wv ad beg (ds.take (j + 1)) ws k = plW (ws.getD k 0) d.k (beg + d.ad) ((ad d.key).getD 0) := by
  unfold wv; rw [ndAt_succ h, ndAt_take hf h hk, if_pos hk]; rfl
theorem wv_miss {ad : List UInt8 → Option Int} {beg : Nat} {ds : List Nd} {ws : List Int} {j k : Nat} {d : Nd} (h : ds[j]? = some d) (hk : d.ad ≠ 4 * (k : Int)) : wv ad beg (ds.take (j + 1)) ws k = wv ad beg (ds.take j) ws k := by
  unfold wv; rw [ndAt_succ h, if_neg hk]; simp
theorem wvs_step {lc : Nat} {ad : List UInt8 → Option Int} {beg : Nat} {ds : List Nd} {ws : List Int} (hf : NdsFit lc ds) {j k : Nat} {d : Nd} (h : ds[j]? = some d) (hk : d.ad = 4 * (k : Int)) (hl : k < ws.length) :
    (wvs ad beg (ds.take j) ws).set k (plW (ws.getD k 0) d.k (beg + d.ad) ((ad d.key).getD 0)) = wvs ad beg (ds.take (j + 1)) ws := by
  refine List.ext_getElem (by simp [wvs]) fun i h1 h2 => ?_
  rw [List.getElem_set]
  by_cases hi : k = i
  · subst hi; rw [if_pos rfl]; simp [wvs, wv_hit hf h hk]
  · rw [if_neg hi]; simp only [wvs, List.getElem_map, List.getElem_range]
    rw [wv_miss h (by omega)]
theorem wv_rng {lc : Nat} {ad : List UInt8 → Option Int} {beg : Nat} {ds : List Nd} {ws : List Int} (hw : ∀ x ∈ ws, 0 ≤ x ∧ x < 4294967296) (had : ∀ k a, ad k = some a → 0 ≤ a ∧ a ≤ 20000) (k : Nat) : 0 ≤ wv ad beg ds ws k ∧ wv ad beg ds ws k < 4294967296 := by
  have h0 : 0 ≤ ws.getD k 0 ∧ ws.getD k 0 < 4294967296 := by
    by_cases hk : k < ws.length
    · have := hw ws[k] (List.getElem_mem hk)
      simpa [List.getD, List.getElem?_eq_getElem hk] using this
    · simp [List.getD, List.getElem?_eq_none (by omega : ws.length ≤ k)]
  unfold wv
  split
  · refine plW_rng h0 ?_
    rename_i d _
    cases hd : ad d.key with
    | none => simp
    | some a => exact had _ _ hd
  · exact h0
/-- Bytes of a word. -/
def wb (x : Int) : List Int := [x % 256, x / 256 % 256, x / 65536 % 256, x / 16777216 % 256]
def pBytes (ws : List Int) : List Int := ws.flatMap wb
theorem pBytes_len (ws : List Int) : (pBytes ws).length = ws.length * 4 := by
  induction ws with
  | nil => rfl
  | cons a ws ih => unfold pBytes at ih ⊢; rw [List.flatMap_cons, List.length_append, ih]; simp [wb]; omega
def putL : List Int → Nat → List Int → List Int
  | xs, _, [] => xs
  | xs, a, y :: ys => putL (xs.set a y) (a + 1) ys
theorem putL_len : ∀ (ys xs : List Int) (a : Nat), (putL xs a ys).length = xs.length
  | [], xs, a => rfl
  | y :: ys, xs, a => by rw [putL, putL_len ys]; simp
theorem putL_snoc : ∀ (ys xs : List Int) (a : Nat) (y : Int), putL xs a (ys ++ [y]) = (putL xs a ys).set (a + ys.length) y
  | [], xs, a, y => by simp [putL]
  | z :: ys, xs, a, y => by
    rw [List.cons_append, putL, putL, putL_snoc ys]
    rw [List.length_cons]; congr 1; omega
theorem putL_step {ys xs : List Int} {a k : Nat} (hk : k < ys.length) : (putL xs a (ys.take k)).set (a + k) (ys.getD k 0) = putL xs a (ys.take (k + 1)) := by
  rw [List.take_succ_eq_append_getElem hk, putL_snoc, List.length_take, Nat.min_eq_left (by omega)]
  simp [List.getD, List.getElem?_eq_getElem hk]
theorem putL_splice : ∀ (ys xs : List Int) (a : Nat), a + ys.length ≤ xs.length → putL xs a ys = splice xs a ys
  | [], xs, a, h => by simp [putL, splice]
  | y :: ys, xs, a, h => by
    rw [List.length_cons] at h
    rw [putL, putL_splice ys _ _ (by simp; omega)]
    unfold splice
    rw [List.length_cons, List.take_succ_eq_append_getElem (by simp; omega), List.getElem_set_self, List.take_set_of_le (by omega : a ≤ a), List.drop_set_of_lt (by omega)]
    simp
    omega
theorem pBytes_at {ws : List Int} {k b : Nat} (hk : k < ws.length) (hb : b < 4) : (pBytes ws).getD (4 * k + b) 0 = (wb (ws.getD k 0)).getD b 0 := by
  have e : ws[k]? = some (ws.getD k 0) := by simp [List.getD, List.getElem?_eq_getElem hk]
  have := flatR_at' (s := 4) ws k b (ws.getD k 0) e hb
  unfold pBytes
  rw [Nat.mul_comm, List.getD, this]; rfl
where
  flatR_at' {s : Nat} (ws : List Int) (k b : Nat) (x : Int) (e : ws[k]? = some x) (hb : b < 4) : (ws.flatMap wb)[k * 4 + b]? = (wb x)[b]? := by
    induction ws generalizing k with
    | nil => simp at e
    | cons y ws ih =>
      cases k with
      | zero => simp at e; subst e; rw [List.flatMap_cons, Nat.zero_mul, Nat.zero_add, List.getElem?_append_left (by simpa [wb] using hb)]
      | succ k =>
        simp at e
        rw [List.flatMap_cons, List.getElem?_append_right (by simp [wb]; omega), ← ih k e]
        congr 1; simp [wb]; omega
theorem pBytes_byt (ws : List Int) : Byt (pBytes ws) := by
  intro x hx
  unfold pBytes at hx
  obtain ⟨y, _, h⟩ := List.mem_flatMap.1 hx
  simp [wb] at h
  rcases h with rfl | rfl | rfl | rfl <;> omega
theorem putL_byt : ∀ (ys xs : List Int) (a : Nat), Byt xs → Byt ys → Byt (putL xs a ys)
  | [], xs, a, h, _ => h
  | y :: ys, xs, a, h, h' => by
    rw [putL]
    refine putL_byt ys _ _ (fun x hx => ?_) (fun x hx => h' x (List.mem_cons_of_mem _ hx))
    rcases List.mem_or_eq_of_mem_set hx with hx | rfl
    · exact h x hx
    · exact h' _ List.mem_cons_self
end Go.Proofs.Ytmndmdipjfblhaa
