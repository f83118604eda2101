/- Where parts begin: plain; contracts of bind.Spots and ringref4.BindSpots. -/
import Derived.Test.YtmndmdipjfblhaaBpB
import Derived.OwnWalk
import Derived.Deep.RegionLaw
namespace Go.Proofs.Ytmndmdipjfblhaa
open Go.RowKit
set_option maxHeartbeats 400000
set_option linter.unusedVariables false
set_option linter.unusedSimpArgs false
theorem bp_reads (w : World) (t : TypeId) (s m : Nat) (xs : List Value) (hl : xs.length = m * s) : Reads (w.alloc (.cells xs.toArray t)) (w.heap.size + 1) s (some ⟨w.heap.size, 0, none⟩) m xs := by
  refine ⟨hl, fun _ => ⟨w.heap.size, 0, rfl, by omega, fun j u hu => ?_⟩⟩
  rw [(Blk.new w xs.toArray t).cell]
  simpa using hu
/-- Cells of spots. -/
def spC (f g : Nat → Int) (n : Nat) : List Value := (List.range n).flatMap fun i => [.int .i64 (f i), .int .i64 (g i)]
def upd (f : Nat → Int) (k : Nat) (x : Int) : Nat → Int := fun i => if i = k then x else f i
theorem spC_len (f g : Nat → Int) (n : Nat) : (spC f g n).length = n * 2 := by
  unfold spC
  have := flatR_len (cl := fun i => [Value.int .i64 (f i), .int .i64 (g i)]) (s := 2) (fun _ => rfl) (List.range n)
  simpa using this
theorem spC_even (f g : Nat → Int) {n i : Nat} (h : i < n) : (spC f g n)[i * 2]? = some (.int .i64 (f i)) := by
  have := flatR_at (cl := fun i => [Value.int .i64 (f i), .int .i64 (g i)]) (s := 2) (fun _ => rfl) (List.range n) i 0 i (by simp [h]) (by omega)
  exact this
theorem spC_odd (f g : Nat → Int) {n i : Nat} (h : i < n) : (spC f g n)[i * 2 + 1]? = some (.int .i64 (g i)) := by
  have := flatR_at (cl := fun i => [Value.int .i64 (f i), .int .i64 (g i)]) (s := 2) (fun _ => rfl) (List.range n) i 1 i (by simp [h]) (by omega)
  exact this
theorem spC_ext (f g : Nat → Int) (n : Nat) (L : List Value) (hl : L.length = n * 2) (h0 : ∀ i, i < n → L[i * 2]? = some (.int .i64 (f i))) (h1 : ∀ i, i < n → L[i * 2 + 1]? = some (.int .i64 (g i))) : L = spC f g n := by
  apply List.ext_getElem?
  intro j
  by_cases hj : j < n * 2
  · have : j % 2 = 0 ∨ j % 2 = 1 := by omega
    rcases this with h | h
    · obtain ⟨i, rfl⟩ : ∃ i, j = i * 2 := ⟨j / 2, by omega⟩
      rw [h0 i (by omega), spC_even f g (by omega)]
    · obtain ⟨i, rfl⟩ : ∃ i, j = i * 2 + 1 := ⟨j / 2, by omega⟩
      rw [h1 i (by omega), spC_odd f g (by omega)]
  · rw [List.getElem?_eq_none (by omega), List.getElem?_eq_none (by rw [spC_len]; omega)]
theorem spC_snoc (f g : Nat → Int) (n : Nat) (a b : Int) : spC f g n ++ [.int .i64 a, .int .i64 b] = spC (upd f n a) (upd g n b) (n + 1) := by
  refine spC_ext _ _ _ _ (by rw [List.length_append, spC_len]; simp; omega) (fun i hi => ?_) (fun i hi => ?_)
  · by_cases h : i < n
    · rw [List.getElem?_append_left (by rw [spC_len]; omega), spC_even f g h]
      unfold upd; rw [if_neg (by omega)]
    · obtain rfl : i = n := by omega
      rw [List.getElem?_append_right (by rw [spC_len]; omega), spC_len]
      unfold upd; simp
  · by_cases h : i < n
    · rw [List.getElem?_append_left (by rw [spC_len]; omega), spC_odd f g h]
      unfold upd; rw [if_neg (by omega)]
    · obtain rfl : i = n := by omega
      rw [List.getElem?_append_right (by rw [spC_len]; omega), spC_len]
      unfold upd; simp
theorem spC_set0 (f g : Nat → Int) {n k : Nat} (h : k < n) (a : Int) : (spC f g n).set (k * 2) (.int .i64 a) = spC (upd f k a) g n := by
  refine spC_ext _ _ _ _ (by rw [List.length_set, spC_len]) (fun i hi => ?_) (fun i hi => ?_)
  · rw [List.getElem?_set]
    by_cases hk : k = i
    · subst hk; rw [if_pos rfl, if_pos (by rw [spC_len]; omega)]; unfold upd; simp
    · rw [if_neg (by omega), spC_even f g hi]; unfold upd; rw [if_neg (by omega)]
  · rw [List.getElem?_set, if_neg (by omega), spC_odd f g hi]
theorem spC_set1 (f g : Nat → Int) {n k : Nat} (h : k < n) (a : Int) : (spC f g n).set (k * 2 + 1) (.int .i64 a) = spC f (upd g k a) n := by
  refine spC_ext _ _ _ _ (by rw [List.length_set, spC_len]) (fun i hi => ?_) (fun i hi => ?_)
  · rw [List.getElem?_set, if_neg (by omega), spC_even f g hi]
  · rw [List.getElem?_set]
    by_cases hk : k = i
    · subst hk; rw [if_pos rfl, if_pos (by rw [spC_len]; omega)]; unfold upd; simp
    · rw [if_neg (by omega), spC_odd f g hi]; unfold upd; rw [if_neg (by omega)]
theorem spC_congr {f f' g g' : Nat → Int} {n : Nat} (hf : ∀ i, i < n → f i = f' i) (hg : ∀ i, i < n → g i = g' i) : spC f g n = spC f' g' n :=
  spC_ext _ _ _ _ (spC_len _ _ _) (fun i hi => by rw [spC_even f g hi, hf i hi]) (fun i hi => by rw [spC_odd f g hi, hg i hi])
theorem spC_made (n : Nat) : (madeCells #[.int .i64 0, .int .i64 0] (n * 2)).toList = spC (fun _ => 0) (fun _ => 0) n := by
  have h : ∀ j, j < n * 2 → (madeCells #[.int .i64 0, .int .i64 0] (n * 2)).toList[j]? = some (.int .i64 0) := by
    intro j hj
    have : j % 2 = 0 ∨ j % 2 = 1 := by omega
    unfold madeCells
    rcases this with h | h <;> simp [hj, h]
  exact spC_ext _ _ _ _ (by simp [madeCells]) (fun i hi => h _ (by omega)) (fun i hi => h _ (by omega))
def cN (os : List Ob) (i : Nat) : Nat := 16 + 4 * ((os.take i).map Ob.n0).sum
def dN (os : List Ob) (i : Nat) : Nat := upN (cN os os.length) 16 + ((os.take i).map fun o => upN o.n1 4).sum
theorem take_snoc {os : List Ob} {k : Nat} {x : Ob} (h : os[k]? = some x) : os.take (k + 1) = os.take k ++ [x] := by
  obtain ⟨hk, rfl⟩ := List.getElem?_eq_some_iff.1 h
  exact List.take_succ_eq_append_getElem hk
theorem cN_step {os : List Ob} {k : Nat} {x : Ob} (h : os[k]? = some x) : cN os (k + 1) = cN os k + 4 * x.n0 := by
  unfold cN; rw [take_snoc h]; simp; omega
theorem dN_step {os : List Ob} {k : Nat} {x : Ob} (h : os[k]? = some x) : dN os (k + 1) = dN os k + upN x.n1 4 := by
  unfold dN; rw [take_snoc h]; simp; omega
theorem cN_zero (os : List Ob) : cN os 0 = 16 := by simp [cN]
theorem dN_zero (os : List Ob) : dN os 0 = upN (cN os os.length) 16 := by simp [dN]
theorem cN_le {os : List Ob} (h : ∀ o ∈ os, BFit o) : ∀ k, k ≤ os.length → cN os k ≤ 16 + 512 * k
  | 0, _ => by rw [cN_zero]; omega
  | k + 1, hk => by
    have e : os[k]? = some os[k] := List.getElem?_eq_getElem (by omega)
    have := cN_le h k (by omega)
    have h2 := (h _ (List.getElem_mem (show k < os.length by omega))).n0
    rw [cN_step e]; omega
theorem dN_le {os : List Ob} (h : ∀ o ∈ os, BFit o) (hl : os.length ≤ 12) : ∀ k, k ≤ os.length → dN os k ≤ 7000 + 260 * k
  | 0, _ => by
    have := cN_le h os.length (Nat.le_refl _)
    rw [dN_zero]; unfold upN; omega
  | k + 1, hk => by
    have e : os[k]? = some os[k] := List.getElem?_eq_getElem (by omega)
    have := dN_le h hl k (by omega)
    have h2 := (h _ (List.getElem_mem (show k < os.length by omega))).n1
    rw [dN_step e]; unfold upN; omega
def spTot (os : List Ob) : Nat := dN os os.length
def spErr (os : List Ob) : Int := if partsErr os = 0 then (if 1024 < spTot os then 2 else 0) else partsErr os
def cI (os : List Ob) (k i : Nat) : Int := if i < k then (cN os i : Int) else 0
def dI (os : List Ob) (k i : Nat) : Int := if i < k then (dN os i : Int) else 0
theorem cI_upd (os : List Ob) (k : Nat) : upd (cI os k) k (cN os k : Nat) = cI os (k + 1) := by
  funext i; unfold upd cI
  by_cases h : i = k
  · subst h; simp
  · rw [if_neg h]
    by_cases h2 : i < k
    · rw [if_pos h2, if_pos (by omega)]
    · rw [if_neg h2, if_neg (by omega)]
theorem dI_upd (os : List Ob) (k : Nat) : upd (dI os k) k (dN os k : Nat) = dI os (k + 1) := by
  funext i; unfold upd dI
  by_cases h : i = k
  · subst h; simp
  · rw [if_neg h]
    by_cases h2 : i < k
    · rw [if_pos h2, if_pos (by omega)]
    · rw [if_neg h2, if_neg (by omega)]
theorem cI_zero (os : List Ob) : cI os 0 = fun _ => 0 := by funext i; simp [cI]
theorem dI_zero (os : List Ob) : dI os 0 = fun _ => 0 := by funext i; simp [dI]
def spL (os : List Ob) : List Value := if spErr os = 0 then spC (cI os os.length) (dI os os.length) os.length else []
def spN (os : List Ob) : Nat := if spErr os = 0 then os.length else 0
def spT (os : List Ob) : Int := if spErr os = 0 then (spTot os : Int) else 0
def SpPost (w : World) (os : List Ob) (e : Ending) (w' : World) : Prop :=
  ∃ v, e = .returned (.tuple #[v, .int .i64 (spT os), .int .i64 (spErr os)]) ∧ Row w' w.heap.size 31 2 v (spN os) (spL os) ∧ Below w.heap.size w w'
theorem SpPost.bad {w w' : World} {os : List Ob} {E : Int} (he : spErr os = E) (hE : E ≠ 0) (hb : Below w.heap.size w w') : SpPost w os (.returned (.tuple #[.slice none 0 0, .int .i64 0, .int .i64 E])) w' := by
  unfold SpPost spT spN spL
  rw [he, if_neg hE, if_neg hE, if_neg hE]
  exact ⟨_, rfl, Row.nil _ _ _ _, hb⟩
theorem SpPost.good {w w' : World} {os : List Ob} {v : Value} (he : spErr os = 0) (hr : Row w' w.heap.size 31 2 v os.length (spC (cI os os.length) (dI os os.length) os.length)) (hb : Below w.heap.size w w') : SpPost w os (.returned (.tuple #[v, .int .i64 (spTot os : Nat), .int .i64 0])) w' := by
  unfold SpPost spT spN spL
  simp only [he, if_true]
  exact ⟨_, rfl, hr, hb⟩
theorem infoSpot : (Try.prog.info? 31).map (fun i => (i.zero, i.size, i.bytes)) = some (some (.agg #[.int .i64 0, .int .i64 0]), 2, 16) := by kernel_rfl
theorem one_ii (a b : Int) : ∀ u ∈ [Value.int .i64 a, .int .i64 b], u.oneCell' = true := by
  intro u hu
  simp at hu
  rcases hu with rfl | rfl <;> rfl
theorem spot_lt {w : World} {B n c : Nat} {A : Option Addr} {xs : List Value} (h : Row w B 31 2 (.slice A n c) n xs) {k : Nat} (hk : k < n) : ∃ g o, A = some ⟨g, o, none⟩ ∧ g < w.heap.size ∧ B ≤ g ∧ (∀ j, w.frozen? ⟨g, j, none⟩ = false) ∧ ∀ j u, xs[j]? = some u → w.cell? ⟨g, o + j, none⟩ = some u := by
  rcases h.2 with ⟨_, h0⟩ | ⟨g, o, cap, cur, e, hb, hg, hn, hm, hs, hx⟩
  · omega
  · injection e with e1
    subst e1
    exact ⟨g, o, rfl, lt_blk hg, hb, fun j => Blk.free (w := w) (t := 31) hg j, fun j u hu => (Blk.cell (w := w) (t := 31) hg (o + j)).trans (hx j u hu)⟩
set_option maxHeartbeats 2000000 in
set_option maxRecDepth 100000 in
theorem spots_any (hchk : ∀ (o : Ob) (w : World) (B : Nat), o.Read w B → B ≤ w.heap.size → Calls Try.prog 21 #[.agg o.vals] w (ErrPost w (objErr o)))
    (A : Option Addr) (n c : Nat) (os : List Ob) (w : World) (B : Nat) (h : RO w B A n os) (hB : B ≤ w.heap.size) (hn : n ≤ 9223372036854775807) : Calls Try.prog 5 #[.slice A n c] w (SpPost w os) := by
  obtain ⟨i0, hi, hz0, hz1, hz2⟩ := info_parts infoSpot
  have HL := Lib.hid h.len
  have HC := Lib.hid (checked_any hchk A n c os w B h hB hn)
  unfold ErrPost at HC
  by_cases hE : partsErr os = 0
  rotate_left
  · have e : Hid (spErr os = partsErr os) := Lib.hid (by unfold spErr; rw [if_neg hE])
    generalize partsErr os = E at *
    have HE := Lib.hid hE
    have d : (E != 0) = true := by simpa using hE
    clear hE
    go_enter Try.func5, Try.ntmps5
    go_wp2_with fail
    refine HC.out.mono ?_
    rintro e' w3 ⟨rfl, hb3⟩
    go_wp2
    go_ret3
    exact SpPost.bad e.out HE.out hb3
  obtain ⟨hl12, hfit⟩ := parts_zero hE
  rw [hE] at HC
  have HCL := Lib.hid (cN_le hfit)
  have HDL := Lib.hid (dN_le hfit hl12)
  have hn12 : n ≤ 12 := by rw [← HL.out]; exact hl12
  have HFIT := Lib.hid hfit
  have HE : Hid (spErr os = if 1024 < spTot os then 2 else 0) := Lib.hid (by unfold spErr; rw [if_pos hE])
  have HUP := Lib.hid (fun W => up_any (cN os n) 16 W (by omega) (by have := HCL.out n (by rw [HL.out]; exact Nat.le_refl _); omega) (by omega))
  have HD0 : Hid (upN (cN os n) 16 = dN os 0) := Lib.hid (by rw [dN_zero, HL.out])
  rw [HD0.out] at HUP
  clear hE hfit hl12
  go_enter Try.func5, Try.ntmps5
  go_wp2_with fail
  refine HC.out.mono ?_
  rintro e' w3 ⟨rfl, hb3⟩
  clear HC
  go_wp2
  go_loopw [6, 7, 19] (fun v a i wr => ∃ k : Nat, k ≤ n ∧ i = .int .i64 k ∧ a = .int .i64 (cN os k : Nat) ∧ Row wr w.heap.size 31 2 v k (spC (cI os k) (dI os 0) k) ∧ Below w.heap.size w wr) (fun _ _ i _ => n - (intOf i).toNat)
  case atStart => exact ⟨0, by omega, rfl, by rw [cN_zero]; rfl, Row.nil _ _ _ _, hb3⟩
  case round =>
    obtain ⟨k, hk, rfl, rfl, hr, hbw⟩ := hrel
    clear hb3
    have hsize := hbw.size
    by_cases hlt : k < n
    · obtain ⟨b, o, x, rfl, hb, hx, _, hfine, z0, z1, z2, z3⟩ := (h.below' hbw hB).at_ hlt
      have hcl := HCL.out k (by rw [HL.out]; omega)
      have hst := Lib.hid (cN_step hx)
      have hx0 := (HFIT.out x (List.mem_of_getElem? hx)).n0
      have HSN := Lib.hid (spC_snoc (cI os k) (dI os 0) k (cN os k : Nat) 0)
      have HCU := Lib.hid (cI_upd os k)
      have HDU : Hid (upd (dI os 0) k 0 = dI os 0) := Lib.hid (by rw [dI_zero]; funext i; unfold upd; split <;> rfl)
      obtain ⟨A7, c7, hv7, hc71, hc72⟩ := hr.shape
      subst hv7
      clear hfine hx
      generalize cN os k = cn at *
      generalize spC (cI os k) (dI os 0) k = LL at *
      obtain ⟨A0, n0, c0, A1, n1, c1, A2, n2, c2, A3, n3, c3, ns, ds⟩ := x
      dsimp only at z0 z1 z2 z3 hst hx0
      have hb2 : Below w.heap.size w ((wr.alloc (.cells #[.slice A0 n0 c0, .slice A1 n1 c1, .slice A2 n2 c2, .slice A3 n3 c3] 51)).alloc (.cells #[.int .i64 cn, .int .i64 0] 31)) := (hbw.alloc hsize _).alloc (by simp; omega) _
      have HB2 := Lib.hid hb2
      have hobn : Blk ((wr.alloc (.cells #[.slice A0 n0 c0, .slice A1 n1 c1, .slice A2 n2 c2, .slice A3 n3 c3] 51)).alloc (.cells #[.int .i64 cn, .int .i64 0] 31)) wr.heap.size #[.slice A0 n0 c0, .slice A1 n1 c1, .slice A2 n2 c2, .slice A3 n3 c3] 51 := (Blk.new _ _ _).alloc _
      have HOB := Lib.hid hobn
      have HRR := Lib.hid (hr.lt)
      clear hb2 hobn
      go_wp2_with (at_builtin; refine wpList_append_row _ rfl (.tmp 23) (.tmp 26) 23 rfl w.heap.size 31 i0 (.agg #[.int .i64 0, .int .i64 0]) 2 16 Try.underlying23 hi hz0 hz1 hz2 rfl (by decide) (.slice A7 k c7) k LL rfl ((hr.alloc _).alloc _) (wr.heap.size + 1 + 1) (some ⟨wr.heap.size + 1, 0, none⟩) 1 1 [.int .i64 cn, .int .i64 0] rfl (by have := bp_reads (wr.alloc (.cells #[.slice A0 n0 c0, .slice A1 n1 c1, .slice A2 n2 c2, .slice A3 n3 c3] 51)) 31 2 1 [.int .i64 cn, .int .i64 0] rfl; simpa using this) (one_ii _ _) (by unfold maxLen; omega) (by omega) HB2.out.size ?_)
      intro A8 c8 w8 hr8 hg8 ho8
      have hob8 := HOB.out.grown hg8 (by intro e; have := (HRR.out _ e.symm).2; omega)
      have hcb := hob8.cell
      have hlb := hob8.lt
      have hb8 := HB2.out.grown hg8 HB2.out.size (fun k hk => (HRR.out _ hk).1)
      clear hg8 ho8 hr HOB
      go_wp2
      go_roundw
      case rel => exact ⟨k + 1, by omega, by go_num, by rw [hst.out]; go_num, by rw [HSN.out, HCU.out, HDU.out] at hr8; exact hr8, hb8⟩
      case measure => simp [intOf]; omega
    · obtain rfl : k = n := by omega
      go_wp2_with fail
      refine (HUP.out _).mono ?_
      rintro e w4 ⟨rfl, rfl⟩
      go_wp2
      obtain ⟨A7, c7, hv7, hc71, hc72⟩ := hr.shape
      subst hv7
      have HCN : Hid (k = os.length) := Lib.hid HL.out.symm
      go_loopw [7, 39] (fun a i wr => ∃ j : Nat, j ≤ k ∧ i = .int .i64 j ∧ a = .int .i64 (dN os j : Nat) ∧ Row wr w.heap.size 31 2 (.slice A7 k c7) k (spC (cI os k) (dI os j) k) ∧ Below w.heap.size w wr) (fun _ i _ => k - (intOf i).toNat)
      case atStart => exact ⟨0, by omega, rfl, rfl, hr, hbw⟩
      case round =>
        clear hr hbw hlt
        obtain ⟨j, hj, rfl, rfl, hr, hbw⟩ := hrel
        have hsize := hbw.size
        by_cases hlt : j < k
        · obtain ⟨b, o, x, rfl, hb, hx, _, hfine, z0, z1, z2, z3⟩ := (h.below' hbw hB).at_ hlt
          have hdl := HDL.out j (by rw [HL.out]; omega)
          have hst := Lib.hid (dN_step hx)
          have hx1 := (HFIT.out x (List.mem_of_getElem? hx)).n1
          have HS1 := Lib.hid (spC_set1 (cI os k) (dI os j) hlt (dN os j : Nat))
          have HDU := Lib.hid (dI_upd os j)
          obtain ⟨g, oo, rfl, hg1, hg2, hfz, hcells⟩ := spot_lt hr hlt
          have hc1 := hcells (j * 2 + 1) _ (spC_odd _ _ hlt)
          rw [← Nat.add_assoc] at hc1
          have hf1 := hfz (oo + j * 2 + 1)
          have hUP := Lib.hid (fun W => up_any x.n1 4 W (by omega) (by omega) (by omega))
          have hrs0 := hr.stored (j := j * 2 + 1) (by omega) (.int .i64 (dN os j : Nat))
          rw [← Nat.add_assoc] at hrs0
          have hrs := Lib.hid (hrs0.alloc (.cells #[.slice x.A0 x.n0 x.c0, .slice x.A1 x.n1 x.c1, .slice x.A2 x.n2 x.c2, .slice x.A3 x.n3 x.c3] 51))
          have HBB := Lib.hid (((Below.refl w.heap.size wr).setCell (p := ⟨g, oo + j * 2 + 1, none⟩) hg2 (.int .i64 (dN os j : Nat))).alloc (by simpa using hsize) (.cells #[.slice x.A0 x.n0 x.c0, .slice x.A1 x.n1 x.c1, .slice x.A2 x.n2 x.c2, .slice x.A3 x.n3 x.c3] 51))
          have hgn1 : ¬ g = wr.heap.size := by omega
          have hgn2 : ¬ wr.heap.size = g := by omega
          clear hfine hx hr hcells hrs0
          have hup4 : upN x.n1 4 ≤ 259 := by unfold upN; omega
          generalize upN x.n1 4 = u4 at *
          generalize dN os j = dn at *
          generalize spC (cI os k) (dI os j) k = LL at *
          obtain ⟨A0, n0, c0, A1, n1, c1, A2, n2, c2, A3, n3, c3, ns, ds⟩ := x
          dsimp only at z0 z1 z2 z3 hst hx1 hUP hrs HBB hup4
          go_wp2_with fail
          refine (hUP.out _).mono ?_
          rintro e w4 ⟨rfl, rfl⟩
          go_wp2
          go_roundw
          case rel => exact ⟨j + 1, by omega, by go_num, by rw [hst.out]; go_num, by have := hrs.out; rw [HS1.out, HDU.out] at this; exact this, hbw.trans HBB.out⟩
          case measure => simp [intOf]; omega
        · obtain rfl : j = k := by omega
          have HD := Lib.hid (show dN os j = spTot os by unfold spTot; rw [← HCN.out])
          have hdl := HDL.out j (by rw [HL.out]; exact Nat.le_refl _)
          rw [HD.out] at hdl ⊢
          rw [HCN.out] at hr
          by_cases hbig : 1024 < spTot os
          · have e : Hid (spErr os = 2) := Lib.hid (by rw [HE.out, if_pos hbig])
            generalize spTot os = T at *
            go_wp2
            go_ret3
            exact SpPost.bad e.out (by omega) hbw
          · have e : Hid (spErr os = 0) := Lib.hid (by rw [HE.out, if_neg hbig])
            have HG := Lib.hid (SpPost.good e.out (by rw [← HCN.out] at hr ⊢; exact hr) hbw)
            generalize spTot os = T at *
            go_wp2
            go_ret3
            exact HG.out
end Go.Proofs.Ytmndmdipjfblhaa
