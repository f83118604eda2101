/- The bytes of parts put together: what they are (plain). -/
import Derived.Test.YtmndmdipjfblhaaBlC
namespace Go.Proofs.Ytmndmdipjfblhaa
open Go.RowKit
set_option maxHeartbeats 400000
set_option linter.unusedVariables false
set_option linter.unusedSimpArgs false
def osOf (fs : List Fo) : List Ob := fs.map Fo.o
def outTo (fs : List Fo) (pl : List En) (n : Nat) : Nat → List Int
  | 0 => List.replicate n 0
  | i + 1 => putL (putL (outTo fs pl n i) (cN (osOf fs) i) (pBytes (wvs (adr pl) (cN (osOf fs) i) (fs.getD i .zero).o.ds (fs.getD i .zero).ws))) (dN (osOf fs) i) (fs.getD i .zero).bs
theorem outTo_len (fs : List Fo) (pl : List En) (n : Nat) : ∀ i, (outTo fs pl n i).length = n
  | 0 => by simp [outTo]
  | i + 1 => by rw [outTo, putL_len, putL_len, outTo_len fs pl n i]
theorem outTo_byt {fs : List Fo} {pl : List En} {n : Nat} (h : ∀ f ∈ fs, Byt f.bs) : ∀ i, Byt (outTo fs pl n i)
  | 0 => by intro x hx; simp [outTo] at hx; omega
  | i + 1 => by
    rw [outTo]
    refine putL_byt _ _ _ (putL_byt _ _ _ (outTo_byt h i) (pBytes_byt _)) ?_
    by_cases hi : i < fs.length
    · have e : fs.getD i .zero = fs[i] := by simp [List.getD, List.getElem?_eq_getElem hi]
      rw [e]; exact h _ (List.getElem_mem hi)
    · have e : fs.getD i .zero = .zero := by simp [List.getD, List.getElem?_eq_none (by omega : fs.length ≤ i)]
      rw [e]; intro x hx; simp [Fo.zero] at hx
def thereAll (fs : List Fo) (pl : List En) : Bool := fs.all fun f => thereB (adr pl) f.o.ds
theorem all_bad {fs : List Fo} {pl : List En} {i : Nat} {f : Fo} (h : fs[i]? = some f) (hn : thereB (adr pl) f.o.ds = false) : thereAll fs pl = false := by
  unfold thereAll
  rw [Bool.eq_false_iff]
  intro hc
  rw [List.all_eq_true] at hc
  rw [hc f (List.mem_of_getElem? h)] at hn
  cases hn
theorem all_step {fs : List Fo} {pl : List En} {i : Nat} {f : Fo} (h : fs[i]? = some f) (hd : thereB (adr pl) f.o.ds = true) (hj : thereAll (fs.take i) pl = true) : thereAll (fs.take (i + 1)) pl = true := by
  obtain ⟨hk, rfl⟩ := List.getElem?_eq_some_iff.1 h
  rw [List.take_succ_eq_append_getElem hk]
  unfold thereAll at hj ⊢
  rw [List.all_append, hj]; simp [hd]
def byErr (fs : List Fo) : Int := if plErr (osOf fs) = 0 then (if thereAll fs (plL (osOf fs)) = true then 0 else 4) else plErr (osOf fs)
def byL (fs : List Fo) : List Int := if byErr fs = 0 then outTo fs (plL (osOf fs)) (spTot (osOf fs)) fs.length else []
def ByPost (w : World) (fs : List Fo) (e : Ending) (w' : World) : Prop :=
  ∃ v, e = .returned (.tuple #[v, .int .i64 (byErr fs)]) ∧ Row w' w.heap.size 5 1 v (byL fs).length ((byL fs).map (Value.int .u8)) ∧ Below w.heap.size w w'
theorem ByPost.bad {w w' : World} {fs : List Fo} {E : Int} (he : byErr fs = E) (hE : E ≠ 0) (hb : Below w.heap.size w w') : ByPost w fs (.returned (.tuple #[.slice none 0 0, .int .i64 E])) w' := by
  unfold ByPost byL
  rw [he, if_neg hE]
  exact ⟨_, rfl, Row.nil _ _ _ _, hb⟩
theorem row_of_blk {w : World} {base g n : Nat} {t : TypeId} {xs : List Value} (hg : base ≤ g) (h : Blk w g xs.toArray t) (hl : xs.length = n) (hm : n ≤ maxLen) : Row w base t 1 (.slice (some ⟨g, 0, none⟩) n n) n xs :=
  ⟨by omega, .inr ⟨g, 0, n, xs.toArray, rfl, hg, h, Nat.le_refl _, hm, by simp; omega, fun j u hu => by rw [Nat.zero_add]; simpa using hu⟩⟩
theorem ByPost.good {w w' : World} {fs : List Fo} {g n : Nat} (he : byErr fs = 0) (hn : n = spTot (osOf fs)) (hm : n ≤ 1024) (hg : w.heap.size ≤ g) (hr : Blk w' g ((outTo fs (plL (osOf fs)) n fs.length).map (Value.int .u8)).toArray 5) (hb : Below w.heap.size w w') :
    ByPost w fs (.returned (.tuple #[.slice (some ⟨g, 0, none⟩) n n, .int .i64 0])) w' := by
  have hl := outTo_len fs (plL (osOf fs)) n fs.length
  refine ⟨_, by rw [he], ?_, hb⟩
  have e : byL fs = outTo fs (plL (osOf fs)) n fs.length := by unfold byL; rw [if_pos he, hn]
  rw [e, hl]
  exact row_of_blk hg hr (by rw [List.length_map, hl]) (by unfold maxLen; omega)
theorem sp_zero {os : List Ob} (h : spErr os = 0) : partsErr os = 0 ∧ spTot os ≤ 1024 := by
  unfold spErr at h
  split at h
  · rename_i hp
    split at h
    · cases h
    · exact ⟨hp, by omega⟩
  · rename_i hp; exact absurd h hp
theorem pl_zero {os : List Ob} (h : plErr os = 0) : spErr os = 0 ∧ plL os = outOf (ents os) := by
  have h' := h
  unfold plErr at h
  split at h
  · rename_i hs; exact ⟨hs, by unfold plL; rw [if_pos h']⟩
  · rename_i hs; exact absurd h hs
theorem cN_up (os : List Ob) : ∀ (d i : Nat), i + d ≤ os.length → cN os i ≤ cN os (i + d)
  | 0, i, h => Nat.le_refl _
  | d + 1, i, h => by
    have e : os[i + d]? = some os[i + d] := List.getElem?_eq_getElem (by omega)
    have := cN_up os d i (by omega)
    rw [← Nat.add_assoc, cN_step e]; omega
theorem dN_up (os : List Ob) : ∀ (d i : Nat), i + d ≤ os.length → dN os i ≤ dN os (i + d)
  | 0, i, h => Nat.le_refl _
  | d + 1, i, h => by
    have e : os[i + d]? = some os[i + d] := List.getElem?_eq_getElem (by omega)
    have := dN_up os d i (by omega)
    rw [← Nat.add_assoc, dN_step e]; omega
theorem sp_bounds {os : List Ob} {i : Nat} {o : Ob} (h : os[i]? = some o) : cN os i + 4 * o.n0 ≤ spTot os ∧ dN os i + o.n1 ≤ spTot os := by
  obtain ⟨hi, rfl⟩ := List.getElem?_eq_some_iff.1 h
  have h1 := cN_up os (os.length - (i + 1)) (i + 1) (by omega)
  have h2 := dN_up os (os.length - (i + 1)) (i + 1) (by omega)
  have h3 := dN_up os os.length 0 (by omega)
  rw [show i + 1 + (os.length - (i + 1)) = os.length by omega] at h1 h2
  rw [Nat.zero_add, dN_zero] at h3
  rw [cN_step h] at h1
  rw [dN_step h] at h2
  have h4 := up_ge (cN os os.length) 16 (by omega)
  have h5 := up_ge os[i].n1 4 (by omega)
  unfold spTot
  omega
theorem sp_ge (os : List Ob) : 16 ≤ spTot os := by
  have h3 := dN_up os os.length 0 (by omega)
  rw [Nat.zero_add, dN_zero] at h3
  have h4 := up_ge (cN os os.length) 16 (by omega)
  have h1 := cN_up os os.length 0 (by omega)
  rw [Nat.zero_add, cN_zero] at h1
  unfold spTot; omega
theorem out_mem {pre : List En} {x : En} (h : x ∈ outOf pre) : x ∈ pre := by
  unfold outOf at h
  obtain ⟨y, hy, rfl⟩ := List.mem_map.1 h
  unfold bestOf
  cases hs : (strongs pre y.key).getLast? with
  | none => exact (uniq_sub pre [] y hy).1
  | some z =>
    have := List.mem_of_getLast? hs
    unfold strongs at this
    exact (List.mem_filter.1 this).1
theorem ents_ad {os : List Ob} (h : ∀ o ∈ os, BFit o) (hl : os.length ≤ 12) : ∀ x ∈ ents os, 0 ≤ x.ad ∧ x.ad ≤ 20000 := by
  intro x hx
  unfold ents entsTo at hx
  obtain ⟨i, hi, hx⟩ := List.mem_flatMap.1 hx
  rw [List.mem_range] at hi
  have e : os.getD i .zero = os[i] := by simp [List.getD, List.getElem?_eq_getElem hi]
  rw [e] at hx
  unfold entsAt at hx
  obtain ⟨n, hn, rfl⟩ := List.mem_map.1 hx
  have hf := (h _ (List.getElem_mem hi)).ns n hn
  have h1 := cN_le h i (by omega)
  have h2 := dN_le h hl i (by omega)
  obtain ⟨_, h3, h4⟩ := hf
  show 0 ≤ adOf os i n ∧ adOf os i n ≤ 20000
  unfold adOf
  split <;> omega
theorem adr_fit {os : List Ob} (h : ∀ o ∈ os, BFit o) (hl : os.length ≤ 12) (hp : plL os = outOf (ents os)) (k : List UInt8) (a : Int) (ha : adr (plL os) k = some a) : 0 ≤ a ∧ a ≤ 20000 := by
  obtain ⟨x, hx, _, rfl⟩ := adr_mem ha
  rw [hp] at hx
  exact ents_ad h hl x (out_mem hx)
theorem ents_len {os : List Ob} (h : ∀ o ∈ os, BFit o) (hns : ∀ o ∈ os, o.ns.length = o.n2) (hl : os.length ≤ 12) (hp : plL os = outOf (ents os)) : (plL os).length ≤ 288 := by
  have h1 := pre_len h hns os.length (Nat.le_refl _)
  have h2 : (outOf (ents os)).length ≤ (ents os).length := by
    rw [out_len]
    unfold uniq
    exact uniq_le _ _
  rw [hp]
  unfold ents at h2 ⊢
  omega
where
  uniq_le : ∀ (l : List En) (met : List (List UInt8)), (uniqGo met l).length ≤ l.length
    | [], _ => by simp [uniqGo]
    | x :: xs, met => by
      simp only [uniqGo]
      split
      · have := uniq_le xs met; simp; omega
      · have := uniq_le xs (met ++ [x.key]); simp; omega
theorem en_fine {os : List Ob} (h : ∀ o ∈ os, ∀ y ∈ o.ns, y.s.size ≤ 9223372036854775807) (hp : plL os = outOf (ents os)) : ∀ x ∈ plL os, x.s.size ≤ 9223372036854775807 := by
  intro x hx
  rw [hp] at hx
  exact ents_fine h x (out_mem hx)
theorem blk_put {w : World} {g a : Nat} {xs ys : List Int} {k : Nat} (h : Blk w g ((putL xs a (ys.take k)).map (Value.int .u8)).toArray 5) (hk : k < ys.length) (y : Int) (hy : y = ys.getD k 0) :
    Blk (w.setCell ⟨g, a + k, none⟩ (.int .u8 y)) g ((putL xs a (ys.take (k + 1))).map (Value.int .u8)).toArray 5 := by
  subst hy
  have := h.set (a + k) (.int .u8 (ys.getD k 0))
  rw [← putL_step hk]
  simpa using this
end Go.Proofs.Ytmndmdipjfblhaa
