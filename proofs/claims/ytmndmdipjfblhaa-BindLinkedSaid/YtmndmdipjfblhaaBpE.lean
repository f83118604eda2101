/- Contracts of bind.address and bind.Places. -/
import Derived.Test.YtmndmdipjfblhaaBpD
import Derived.Test.YtmndmdipjfblhaaTMap
import Derived.Test.YtmndmdipjfblhaaFlow
import Derived.Deep.Light
namespace Go.Proofs.Ytmndmdipjfblhaa
open Go.RowKit
set_option maxHeartbeats 400000
set_option linter.unusedVariables false
set_option linter.unusedSimpArgs false
def En.cells (x : En) : List Value := [.string x.s, .int .i64 x.part, .int .i64 x.ad]
def En.zero : En := ⟨ByteArray.empty, 0, 0, false⟩
def adOf (os : List Ob) (i : Nat) (n : Nm) : Int := (if n.wh = 1 then (cN os i : Int) else (dN os i : Int)) + n.ad
def enOf (os : List Ob) (i : Nat) (n : Nm) : En := ⟨n.s, i, adOf os i n, n.wk⟩
def entsAt (os : List Ob) (i : Nat) (o : Ob) : List En := o.ns.map (enOf os i)
def entsTo (os : List Ob) (i : Nat) : List En := (List.range i).flatMap fun j => entsAt os j (os.getD j .zero)
def ents (os : List Ob) : List En := entsTo os os.length
theorem entsTo_succ (os : List Ob) (i : Nat) : entsTo os (i + 1) = entsTo os i ++ entsAt os i (os.getD i .zero) := by
  unfold entsTo; rw [List.range_succ, List.flatMap_append]; simp
theorem entsTo_split (os : List Ob) : ∀ (d i : Nat), i + d = os.length → ∃ r, ents os = entsTo os i ++ r
  | 0, i, h => ⟨[], by unfold ents; rw [← h]; simp⟩
  | d + 1, i, h => by
    obtain ⟨r, hr⟩ := entsTo_split os d (i + 1) (by omega)
    exact ⟨entsAt os i (os.getD i .zero) ++ r, by rw [hr, entsTo_succ]; simp⟩
/-- What has been met ahead of name k of part i. -/
def preOf (os : List Ob) (i k : Nat) (x : Ob) : List En := entsTo os i ++ (entsAt os i x).take k
theorem pre_zero (os : List Ob) (i : Nat) (x : Ob) : preOf os i 0 x = entsTo os i := by simp [preOf]
theorem pre_succ {os : List Ob} {i k : Nat} {x : Ob} (h : k < x.ns.length) : preOf os i (k + 1) x = preOf os i k x ++ [enOf os i (x.ns.getD k .zero)] := by
  unfold preOf
  have hl : k < (entsAt os i x).length := by simpa [entsAt] using h
  rw [List.take_succ_eq_append_getElem hl, List.append_assoc]
  simp [entsAt, List.getD, List.getElem?_eq_getElem h]
theorem pre_all {os : List Ob} {i : Nat} {x : Ob} (hx : os.getD i .zero = x) : preOf os i x.ns.length x = entsTo os (i + 1) := by
  rw [entsTo_succ, hx, preOf, List.take_of_length_le (by simp [entsAt])]
theorem pre_split {os : List Ob} {i k : Nat} {x : Ob} (hi : i < os.length) (hx : os.getD i .zero = x) : ∃ r, ents os = preOf os i k x ++ r := by
  obtain ⟨r, hr⟩ := entsTo_split os (os.length - (i + 1)) (i + 1) (by omega)
  refine ⟨(entsAt os i x).drop k ++ r, ?_⟩
  rw [hr, entsTo_succ, hx, preOf, List.append_assoc, List.append_assoc, ← List.append_assoc ((entsAt os i x).take k), List.take_append_drop]
theorem pre_len {os : List Ob} (h : ∀ o ∈ os, BFit o) (hns : ∀ o ∈ os, o.ns.length = o.n2) : ∀ i, i ≤ os.length → (entsTo os i).length ≤ 24 * i
  | 0, _ => by simp [entsTo]
  | i + 1, hi => by
    have := pre_len h hns i (by omega)
    have e : os.getD i .zero = os[i]'(by omega) := by simp [List.getD, List.getElem?_eq_getElem (show i < os.length by omega)]
    have hm : os[i]'(by omega) ∈ os := List.getElem_mem _
    have h2 := (h _ hm).n2
    have h3 := hns _ hm
    rw [entsTo_succ, List.length_append, e, entsAt, List.length_map]; omega
def plErr (os : List Ob) : Int := if spErr os = 0 then (if dup (ents os) = true then 5 else 0) else spErr os
def plL (os : List Ob) : List En := if plErr os = 0 then outOf (ents os) else []
def PlPost (w : World) (os : List Ob) (e : Ending) (w' : World) : Prop :=
  ∃ v, e = .returned (.tuple #[v, .int .i64 (plErr os)]) ∧ Row w' w.heap.size 33 3 v (plL os).length ((plL os).flatMap En.cells) ∧ Below w.heap.size w w'
theorem PlPost.bad {w w' : World} {os : List Ob} {E : Int} (he : plErr os = E) (hE : E ≠ 0) (hb : Below w.heap.size w w') : PlPost w os (.returned (.tuple #[.slice none 0 0, .int .i64 E])) w' := by
  unfold PlPost plL
  rw [he, if_neg hE]
  exact ⟨_, rfl, Row.nil _ _ _ _, hb⟩
theorem PlPost.good {w w' : World} {os : List Ob} {v : Value} (he : plErr os = 0) (hr : Row w' w.heap.size 33 3 v (outOf (ents os)).length ((outOf (ents os)).flatMap En.cells)) (hb : Below w.heap.size w w') : PlPost w os (.returned (.tuple #[v, .int .i64 0])) w' := by
  unfold PlPost plL
  simp only [he, if_true]
  exact ⟨_, rfl, hr, hb⟩
set_option maxRecDepth 100000 in
theorem address_any (c d wh ad : Int) (s : ByteArray) (wk : Bool) (w : World) (hc : 0 ≤ c ∧ c ≤ 1000000) (hd : 0 ≤ d ∧ d ≤ 1000000) (ha : 0 ≤ ad ∧ ad ≤ 1000000) :
    Calls Try.prog 18 #[.agg #[.int .i64 c, .int .i64 d], .agg #[.string s, .int .i64 wh, .int .i64 ad, .bool wk]] w fun e w' => e = .returned (.int .i64 ((if wh = 1 then c else d) + ad)) ∧ Below w.heap.size w w' := by
  by_cases h : wh = 1
  · have H := Lib.hid (show (if wh = 1 then c else d) + ad = c + ad by rw [if_pos h])
    have e : (wh == 1) = true := by simpa using h
    clear h
    rw [H.out]
    go_enter Try.func18, Try.ntmps18
    go_wp2
    go_ret
    exact ⟨rfl, ((Below.refl _ _).alloc (Nat.le_refl _) _).alloc (by simp) _⟩
  · have H := Lib.hid (show (if wh = 1 then c else d) + ad = d + ad by rw [if_neg h])
    have e : (wh == 1) = false := by simpa using h
    clear h
    rw [H.out]
    go_enter Try.func18, Try.ntmps18
    go_wp2
    go_ret
    exact ⟨rfl, ((Below.refl _ _).alloc (Nat.le_refl _) _).alloc (by simp) _⟩
/-- A block known whole, and later than B0. -/
def blkSt (B0 : Nat) (cs : Array Value) (t : TypeId) : St := ⟨fun v w => ∃ g, v = .pointer (some ⟨g, 0, none⟩) ∧ B0 ≤ g ∧ Blk w g cs t,
  fun _ _ _ h hg => by
    obtain ⟨g, h1, h2, h3⟩ := h
    exact ⟨g, h1, h2, h3.fr (Fr.of_grow hg) (fun h => h)⟩⟩
theorem bp_row_lt {w : World} {B e size n c : Nat} {A : Option Addr} {xs : List Value} (h : Row w B e size (.slice A n c) n xs) {k : Nat} (hk : k < n) : ∃ g o, A = some ⟨g, o, none⟩ ∧ g < w.heap.size ∧ B ≤ g ∧ (∀ j, w.frozen? ⟨g, j, none⟩ = false) ∧ ∀ j u, xs[j]? = some u → w.cell? ⟨g, o + j, none⟩ = some u := by
  rcases h.2 with ⟨_, h0⟩ | ⟨g, o, cap, cur, e, hb, hg, hn, hm, hs, hx⟩
  · omega
  · injection e with e1
    subst e1
    exact ⟨g, o, rfl, lt_blk hg, hb, fun j => Blk.free (w := w) hg j, fun j u hu => (Blk.cell (w := w) hg (o + j)).trans (hx j u hu)⟩
theorem flat_set3 : ∀ (l : List En) (i : Nat) (x : En), i < l.length → (((l.flatMap En.cells).set (i * 3) (.string x.s)).set (i * 3 + 1) (.int .i64 x.part)).set (i * 3 + 2) (.int .i64 x.ad) = (l.set i x).flatMap En.cells
  | [], i, x, h => by simp at h
  | a :: l, 0, x, h => by simp [En.cells]
  | a :: l, i + 1, x, h => by
    have ih := flat_set3 l i x (by simpa using h)
    rw [List.set_cons_succ, List.flatMap_cons, List.flatMap_cons, ← ih]
    have e : (i + 1) * 3 = i * 3 + 3 := by omega
    rw [e]
    simp [En.cells]
theorem flat_len3 (l : List En) : (l.flatMap En.cells).length = l.length * 3 := flatR_len (cl := En.cells) (s := 3) (fun _ => rfl) l
theorem flat_at3 {l : List En} {i : Nat} {x : En} (h : l[i]? = some x) : (l.flatMap En.cells)[i * 3]? = some (.string x.s) ∧ (l.flatMap En.cells)[i * 3 + 1]? = some (.int .i64 x.part) ∧ (l.flatMap En.cells)[i * 3 + 2]? = some (.int .i64 x.ad) :=
  ⟨flatR_at (cl := En.cells) (s := 3) (fun _ => rfl) l i 0 x h (by omega), flatR_at (cl := En.cells) (s := 3) (fun _ => rfl) l i 1 x h (by omega), flatR_at (cl := En.cells) (s := 3) (fun _ => rfl) l i 2 x h (by omega)⟩
/-- Between two names: what has been gathered. -/
structure PlS (W w : World) (pre : List En) (v : Value) (m1 m2 : Nat) : Prop where
  low : Below W.heap.size W w
  out : Row w (W.heap.size + 2) 33 3 v (outOf pre).length ((outOf pre).flatMap En.cells)
  at_ : TextInt Try.prog w 9 3 W.heap.size m1 (fun k => (placeOf pre k).map fun i : Nat => (i : Int))
  st : TextBool Try.prog w 9 4 (W.heap.size + 1) m2 (isStrong pre)
  nd : dup pre = false
theorem PlS.grow {W w w' : World} {pre : List En} {v : Value} {m1 m2 : Nat} (h : PlS W w pre v m1 m2) (hb : Below w.heap.size w w') : PlS W w' pre v m1 m2 :=
  ⟨h.low.trans (hb.mono h.low.size), h.out.grow hb, h.at_.grow hb, h.st.grow hb, h.nd⟩
theorem zero3 (w : World) : (zeroValue 3).run Try.prog w = .ok (.int .i64 0) w := by kernel_rfl
theorem one_en (x : En) : ∀ u ∈ x.cells, u.oneCell' = true := by
  intro u hu
  simp [En.cells] at hu
  rcases hu with rfl | rfl | rfl <;> rfl
theorem infoPlace : (Try.prog.info? 33).map (fun i => (i.zero, i.size, i.bytes)) = some (some (.agg #[.string ByteArray.empty, .int .i64 0, .int .i64 0]), 3, 32) := by kernel_rfl
/-- Blocks of different types are different. -/
theorem bp_row_blk {w : World} {base e size n g : Nat} {v : Value} {xs : List Value} {cs : Array Value} {t : TypeId} (h : Row w base e size v n xs) (hb : Blk w g cs t) (ht : e ≠ t) : v.ownBlock ≠ some g := by
  rcases h.2 with ⟨rfl, _⟩ | ⟨g', o, cap, cur, rfl, _, hg, _⟩
  · simp [Value.ownBlock]
  · intro he
    have : g' = g := by simpa [Value.ownBlock] using he
    subst this
    unfold Blk at hb
    rw [hb] at hg
    injection hg with hg
    injection hg with _ hg
    exact ht hg.symm
/-- The map of places behind a new name. -/
theorem PlS.put_at {W w w' : World} {pre : List En} {v : Value} {m1 m2 : Nat} {x : En} (h : PlS W w pre v m1 m2) (hm : (keysOf pre).contains x.key = false) (f : List UInt8 → Option Int)
    (hf : ∀ z, f z = if z = x.key then some ((outOf pre).length : Int) else (placeOf pre z).map fun i : Nat => (i : Int)) (ht : TextInt Try.prog w' 9 3 W.heap.size (m1 + 1) f) :
    TextInt Try.prog w' 9 3 W.heap.size (m1 + 1) (fun k => (placeOf (pre ++ [x]) k).map fun i : Nat => (i : Int)) := by
  have : (fun k => (placeOf (pre ++ [x]) k).map fun i : Nat => (i : Int)) = f := by
    funext z
    rw [hf z, place_new hm z, out_len]
    split <;> simp
  rw [this]; exact ht
theorem strong_fun (pre : List En) (x : En) (b : Bool) (hb : b = (isStrong pre x.key || !x.wk)) : (fun z => if z = x.key then b else isStrong pre z) = isStrong (pre ++ [x]) := by
  funext z
  rw [strong_snoc]
  by_cases h : z = x.key
  · subst h; rw [if_pos rfl, if_pos rfl, hb]
  · rw [if_neg h, if_neg h]
set_option maxHeartbeats 4000000 in
set_option maxRecDepth 100000 in
theorem places_any (hchk : ∀ (o : Ob) (w : World) (B : Nat), o.Read w B → B ≤ w.heap.size → Calls Try.prog 21 #[.agg o.vals] w (ErrPost w (objErr o)))
    (A : Option Addr) (n c : Nat) (os : List Ob) (w : World) (B : Nat) (h : RO w B A n os) (hB : B ≤ w.heap.size) (hn : n ≤ 9223372036854775807) : Calls Try.prog 7 #[.slice A n c] w (PlPost w os) := by
  obtain ⟨i0, hi, hz0, hz1, hz2⟩ := info_parts infoPlace
  have hmm := @run_makeMap Try.prog
  have HL := Lib.hid h.len
  have HS := Lib.hid (spots_any hchk A n c os w B h hB hn)
  unfold SpPost at HS
  by_cases hE : spErr os = 0
  rotate_left
  · have e : Hid (plErr os = spErr os) := Lib.hid (by unfold plErr; rw [if_neg hE])
    generalize spErr os = E at *
    have HE := Lib.hid hE
    have d : (E != 0) = true := by simpa using hE
    clear hE
    go_enter Try.func7, Try.ntmps7
    go_wp2_with fail
    refine HS.out.mono ?_
    rintro e' w3 ⟨v, rfl, hr3, hb3⟩
    go_wp2
    go_ret2
    exact PlPost.bad e.out HE.out hb3
  have HE : Hid (plErr os = if dup (ents os) = true then 5 else 0) := Lib.hid (by unfold plErr; rw [if_pos hE])
  have hpe : partsErr os = 0 := by
    unfold spErr at hE
    split at hE
    · assumption
    · rename_i h'; exact absurd hE h'
  obtain ⟨hl12, hfit⟩ := parts_zero hpe
  have HCL := Lib.hid (cN_le hfit)
  have HDL := Lib.hid (dN_le hfit hl12)
  have hn12 : n ≤ 12 := by rw [← HL.out]; exact hl12
  have HFIT := Lib.hid hfit
  have HNS : Hid (∀ o ∈ os, o.ns.length = o.n2) := Lib.hid (fun o ho => (h.2 o ho).rd.ns.len)
  have HPL := Lib.hid (pre_len hfit HNS.out)
  have HsL : Hid (spL os = spC (cI os os.length) (dI os os.length) os.length) := Lib.hid (by unfold spL; rw [if_pos hE])
  have HsN : Hid (spN os = n) := Lib.hid (by unfold spN; rw [if_pos hE, HL.out])
  rw [hE, HsL.out, HsN.out] at HS
  generalize spT os = T at *
  clear hE hpe hfit hl12 HsL HsN
  go_enter Try.func7, Try.ntmps7
  go_wp2_with fail
  refine HS.out.mono ?_
  rintro e' w3 ⟨v3, rfl, hr3, hb3⟩
  obtain ⟨AS, cS, rfl, hcS1, hcS2⟩ := hr3.shape
  have HRS := Lib.hid hr3
  have hsz3 := hb3.size
  have h3 : RO w3 B A n os := h.below' hb3 hB
  have HB3 := Lib.hid hb3
  clear HS hr3 hb3
  go_wp2
  go_loopw [7, 30] (fun v i wr => ∃ k m1 m2 : Nat, k ≤ n ∧ m1 ≤ 24 * k ∧ m2 ≤ 24 * k ∧ i = .int .i64 k ∧ PlS w3 wr (entsTo os k) v m1 m2) (fun _ i _ => n - (intOf i).toNat)
  case atStart =>
    refine ⟨0, 0, 0, by omega, by omega, by omega, rfl, ?_, Row.nil _ _ _ _, ?_, ?_, rfl⟩
    · exact ((Below.refl _ _).alloc (Nat.le_refl _) _).alloc (by simp) _
    · exact (TextInt.made Try.prog w3 9 3).alloc _
    · have := TextBool.made Try.prog (w3.alloc (.map #[] 0)) 9 4
      rw [show isStrong (entsTo os 0) = fun _ => false from by funext z; rfl]
      simpa using this
  case round =>
    obtain ⟨i, m1, m2, hi_, hm1, hm2, rfl, hS⟩ := hrel
    by_cases hlt : i < n
    rotate_left
    · obtain rfl : i = n := by omega
      have e : Hid (entsTo os i = ents os) := Lib.hid (by unfold ents; rw [HL.out])
      rw [e.out] at hS
      have hp : Hid (plErr os = 0) := Lib.hid (by rw [HE.out, hS.nd]; rfl)
      have hfin : Hid (Below w.heap.size w wr) := Lib.hid (HB3.out.trans (hS.low.mono hsz3))
      have hro := Lib.hid (hS.out.base_le (base' := w.heap.size) (by omega))
      clear hS
      go_wp2
      go_ret2
      exact PlPost.good hp.out hro.out hfin.out
    · have hS' : Below w3.heap.size w3 wr := hS.low
      have hsize := hS'.size
      obtain ⟨b, o, x, rfl, hb, hx, hxd, hfine, z0, z1, z2, z3⟩ := (h3.below' hS' (by omega)).at_ hlt
      have hsp := spot_lt HRS.out hlt
      obtain ⟨gs, os_, rfl, hgs, _, _, hcells⟩ := hsp
      have ks0' := (hcells (i * 2) _ (spC_even _ _ (by rw [HL.out]; exact hlt)))
      have ks1' := (hcells (i * 2 + 1) _ (spC_odd _ _ (by rw [HL.out]; exact hlt)))
      have hgs' : gs < wr.heap.size := by omega
      have hci : cI os os.length i = (cN os i : Nat) := by unfold cI; rw [if_pos (by rw [HL.out]; exact hlt)]
      have hdi : dI os os.length i = (dN os i : Nat) := by unfold dI; rw [if_pos (by rw [HL.out]; exact hlt)]
      rw [hci] at ks0'
      rw [hdi, ← Nat.add_assoc] at ks1'
      have hcl := HCL.out i (by rw [HL.out]; omega)
      have hdl := HDL.out i (by rw [HL.out]; omega)
      have hfx := HFIT.out x (List.mem_of_getElem? hx)
      have HPF := Lib.hid hfx.ns
      have hx2 := hfx.n2
      have HNX := Lib.hid (HNS.out x (List.mem_of_getElem? hx))
      have HPA := Lib.hid (pre_all hxd)
      have HPS := Lib.hid (fun k => pre_split (k := k) (by rw [HL.out]; exact hlt) hxd)
      have hrn := (h3.2 x (List.mem_of_getElem? hx)).rd.ns
      have HAD := Lib.hid (fun (s : ByteArray) wh ad wk W (ha : 0 ≤ ad ∧ ad ≤ 512) => address_any (cN os i : Nat) (dN os i : Nat) wh ad s wk W (by omega) (by omega) (by omega))
      have HAO : Hid (∀ y : Nm, (if y.wh = 1 then (cN os i : Int) else (dN os i : Int)) + y.ad = adOf os i y) := Lib.hid (fun y => rfl)
      have hS1 := hS.grow ((Below.refl wr.heap.size wr).alloc (Nat.le_refl _) (.cells #[.slice x.A0 x.n0 x.c0, .slice x.A1 x.n1 x.c1, .slice x.A2 x.n2 x.c2, .slice x.A3 x.n3 x.c3] 51))
      rw [← pre_zero os i x] at hS1
      have HP0 := HPL.out i (by rw [HL.out]; omega)
      have HPZ : Hid (∀ k, (preOf os i k x).length ≤ 24 * i + k) := Lib.hid (fun k => by unfold preOf; rw [List.length_append, List.length_take]; omega)
      have HRN := Lib.hid hrn
      have HPSU := Lib.hid (fun k (hk : k < x.n2) => pre_succ (os := os) (i := i) (x := x) (k := k) (by rw [HNX.out]; exact hk))
      have HMX := Lib.hid (fun k (hk : k < x.n2) => (show x.ns.getD k .zero ∈ x.ns by
        have hl : k < x.ns.length := by rw [HNX.out]; exact hk
        simp [List.getD, List.getElem?_eq_getElem hl]))
      obtain ⟨PP, hPP⟩ : ∃ PP : Nat → List En, ∀ k, preOf os i k x = PP k := ⟨_, fun _ => rfl⟩
      simp only [hPP] at HPA HPS HPZ HPSU hS1
      clear hPP
      generalize (cN os i : Nat) = cn at *
      generalize (dN os i : Nat) = dn at *
      have ks0 := ks0'
      have ks1 := ks1'
      clear hS hfine hfx hci hdi hx hcells hrn ks0' ks1' HCL HDL
      obtain ⟨A0, n0, c0, A1, n1, c1, A2, n2, c2, A3, n3, c3, ns, ds⟩ := x
      dsimp only at z0 z1 z2 z3 hx2 HNX HPA HPF HRN HPSU HMX
      obtain ⟨W0, hW⟩ : ∃ W, W = wr := ⟨_, rfl⟩
      subst hW
      go_wp2
      go_loopw [7, 38] (fun vo j wr => ∃ k m1 m2 : Nat, k ≤ n2 ∧ m1 ≤ 24 * i + k ∧ m2 ≤ 24 * i + k ∧ j = .int .i64 k ∧ PlS w3 wr (PP k) vo m1 m2) (fun _ j _ => n2 - (intOf j).toNat)
      case atStart => exact ⟨0, m1, m2, by omega, by omega, by omega, rfl, hS1⟩
      case round =>
        clear hS1 hm1 hm2
        obtain ⟨k, m1, m2, hk, hm1, hm2, rfl, hS⟩ := hrel
        have hsz' : w3.heap.size ≤ wr.heap.size := hS.low.size
        by_cases hkl : k < n2
        rotate_left
        · obtain rfl : k = n2 := by omega
          have HPA2 : Hid (PP k = entsTo os (i + 1)) := Lib.hid (by rw [← HNX.out]; exact HPA.out)
          rw [HPA2.out] at hS
          clear HPA2
          go_wp2
          go_roundw
          case rel => exact ⟨i + 1, m1, m2, by omega, by omega, by omega, by go_num, hS⟩
          case measure => simp [intOf]; omega
        · obtain ⟨b2, o2, rfl, hb2, hfn, y0, y1, y2, y3⟩ := (HRN.out.below' hS.low (by omega)).at_ hkl
          have hsu := HPSU.out k hkl
          have hfit := HPF.out _ (HMX.out k hkl)
          have hlen := HPZ.out k
          have hspl := HPS.out k
          have hspl2 := HPS.out (k + 1)
          rw [hsu] at hspl2
          have HSU := Lib.hid hsu
          clear hsu
          generalize PP k = pre at *
          generalize ns.getD k .zero = nm at *
          obtain ⟨s, wh, ad, wk⟩ := nm
          obtain ⟨hwh, had⟩ := hfit
          obtain ⟨hs, hwhf, hadf⟩ := hfn
          dsimp only at y0 y1 y2 y3 hwh had hs hwhf hadf
          have hao := HAO.out ⟨s, wh, ad, wk⟩
          dsimp only at hao
          have HAD := Lib.hid (fun W => HAD.out s wh ad wk W had)
          simp only [hao] at HAD
          rw [show enOf os i ⟨s, wh, ad, wk⟩ = ⟨s, i, adOf os i ⟨s, wh, ad, wk⟩, wk⟩ from rfl] at HSU hspl2
          have hwc := hao
          have hao2 : 0 ≤ adOf os i ⟨s, wh, ad, wk⟩ ∧ adOf os i ⟨s, wh, ad, wk⟩ ≤ 100000 := by rw [← hao]; split <;> omega
          clear hao hwc
          generalize adOf os i ⟨s, wh, ad, wk⟩ = ao at *
          have hby : Blk (wr.alloc (.cells #[.string s, .int .i64 wh, .int .i64 ad, .bool wk] 56)) wr.heap.size #[.string s, .int .i64 wh, .int .i64 ad, .bool wk] 56 := Blk.new _ _ _
          have hS2 := hS.grow ((Below.refl wr.heap.size wr).alloc (Nat.le_refl _) (.cells #[.string s, .int .i64 wh, .int .i64 ad, .bool wk] 56))
          have hgs2 : gs < wr.heap.size := by omega
          have ks0 := (hS2.low.cell (p := ⟨gs, os_ + i * 2, none⟩) hgs).trans ks0
          have ks1 := (hS2.low.cell (p := ⟨gs, os_ + i * 2 + 1, none⟩) hgs).trans ks1
          have hsz2 := hS.st.lt
          have hovl := hS.out.lt
          clear hS
          go_wp2_with fail
          refine wp_region_walk (fun w' => Below (wr.alloc (.cells #[.string s, .int .i64 wh, .int .i64 ad, .bool wk] 56)).heap.size (wr.alloc (.cells #[.string s, .int .i64 wh, .int .i64 ad, .bool wk] 56)) w') [[], [(42, 0)], [], [], [], [(45, 3), (46, 4)], [(47, 5)], [], [(48, 6), (49, 7)], [(43, 1), (44, 2), (50, 8)], []]
            [(42, 0), (43, 1), (44, 2), (45, 3), (46, 4), (47, 5), (48, 6), (49, 7), (50, 8), (51, 9), (14, 10)] (by kernel_rfl) (by kernel_rfl) (by kernel_rfl) (Below.refl _ _).drew ?_
          apply Flow.det_step
          · go_light
            intro w1 hC1
            simp only [Flow.fill, Flow.after, Flow.at_, List.nil_append, List.cons_append, List.getD_cons_zero, List.getD_cons_succ, det, forall_eq, List.setIfInBounds_toArray, List.set_cons_zero, List.set_cons_succ, List.drop, List.length]
            have hb3 := hC1
            have hs3 := hb3.size; have hbyy := hby.fr (Fr.of_grow hb3) (fun h => h); have hcx := hbyy.cell; have hlx := hbyy.lt; have k0 := (hb3.cell (p := ⟨gs, os_ + i * 2, none⟩) (Nat.lt_of_lt_of_le hgs2 (by simp))).trans ks0; have k1 := (hb3.cell (p := ⟨gs, os_ + i * 2 + 1, none⟩) (Nat.lt_of_lt_of_le hgs2 (by simp))).trans ks1
            go_wp2
            exact Flow.post_det hb3 (Grow.refl _) rfl rfl
          apply Flow.det_step
          · go_light
            intro w1 hC1
            simp only [Flow.fill, Flow.after, Flow.at_, List.nil_append, List.cons_append, List.getD_cons_zero, List.getD_cons_succ, det, forall_eq, List.setIfInBounds_toArray, List.set_cons_zero, List.set_cons_succ, List.drop, List.length]
            have hb3 := hC1
            have hs3 := hb3.size; have hbyy := hby.fr (Fr.of_grow hb3) (fun h => h); have hcx := hbyy.cell; have hlx := hbyy.lt; have k0 := (hb3.cell (p := ⟨gs, os_ + i * 2, none⟩) (Nat.lt_of_lt_of_le hgs2 (by simp))).trans ks0; have k1 := (hb3.cell (p := ⟨gs, os_ + i * 2 + 1, none⟩) (Nat.lt_of_lt_of_le hgs2 (by simp))).trans ks1
            go_wp2
            exact Flow.post_det hb3 (Grow.refl _) rfl rfl
          apply Flow.det_step
          · go_light
            intro w1 hC1
            simp only [Flow.fill, Flow.after, Flow.at_, List.nil_append, List.cons_append, List.getD_cons_zero, List.getD_cons_succ, det, forall_eq, List.setIfInBounds_toArray, List.set_cons_zero, List.set_cons_succ, List.drop, List.length]
            have hb3 := hC1
            have hs3 := hb3.size; have hbyy := hby.fr (Fr.of_grow hb3) (fun h => h); have hcx := hbyy.cell; have hlx := hbyy.lt; have k0 := (hb3.cell (p := ⟨gs, os_ + i * 2, none⟩) (Nat.lt_of_lt_of_le hgs2 (by simp))).trans ks0; have k1 := (hb3.cell (p := ⟨gs, os_ + i * 2 + 1, none⟩) (Nat.lt_of_lt_of_le hgs2 (by simp))).trans ks1
            go_wp2
            exact Flow.post_det hb3 (Grow.refl _) rfl rfl
          apply Flow.det_step
          · go_light
            intro w1 hC1
            simp only [Flow.fill, Flow.after, Flow.at_, List.nil_append, List.cons_append, List.getD_cons_zero, List.getD_cons_succ, det, forall_eq, List.setIfInBounds_toArray, List.set_cons_zero, List.set_cons_succ, List.drop, List.length]
            have hb3 := hC1
            have hs3 := hb3.size; have hbyy := hby.fr (Fr.of_grow hb3) (fun h => h); have hcx := hbyy.cell; have hlx := hbyy.lt; have k0 := (hb3.cell (p := ⟨gs, os_ + i * 2, none⟩) (Nat.lt_of_lt_of_le hgs2 (by simp))).trans ks0; have k1 := (hb3.cell (p := ⟨gs, os_ + i * 2 + 1, none⟩) (Nat.lt_of_lt_of_le hgs2 (by simp))).trans ks1
            go_wp2
            exact Flow.post_det hb3 (Grow.refl _) rfl rfl
          apply Flow.det_step
          · go_light
            intro w1 hC1
            simp only [Flow.fill, Flow.after, Flow.at_, List.nil_append, List.cons_append, List.getD_cons_zero, List.getD_cons_succ, det, forall_eq, List.setIfInBounds_toArray, List.set_cons_zero, List.set_cons_succ, List.drop, List.length]
            have hb3 := hC1
            have hs3 := hb3.size; have hbyy := hby.fr (Fr.of_grow hb3) (fun h => h); have hcx := hbyy.cell; have hlx := hbyy.lt; have k0 := (hb3.cell (p := ⟨gs, os_ + i * 2, none⟩) (Nat.lt_of_lt_of_le hgs2 (by simp))).trans ks0; have k1 := (hb3.cell (p := ⟨gs, os_ + i * 2 + 1, none⟩) (Nat.lt_of_lt_of_le hgs2 (by simp))).trans ks1
            go_wp2
            exact Flow.post_det hb3 (Grow.refl _) rfl rfl
          apply Flow.det_step
          · go_light
            intro w1 hC1
            simp only [Flow.fill, Flow.after, Flow.at_, List.nil_append, List.cons_append, List.getD_cons_zero, List.getD_cons_succ, det, forall_eq, List.setIfInBounds_toArray, List.set_cons_zero, List.set_cons_succ, List.drop, List.length]
            have hb3 := hC1
            have hs3 := hb3.size; have hbyy := hby.fr (Fr.of_grow hb3) (fun h => h); have hcx := hbyy.cell; have hlx := hbyy.lt; have k0 := (hb3.cell (p := ⟨gs, os_ + i * 2, none⟩) (Nat.lt_of_lt_of_le hgs2 (by simp))).trans ks0; have k1 := (hb3.cell (p := ⟨gs, os_ + i * 2 + 1, none⟩) (Nat.lt_of_lt_of_le hgs2 (by simp))).trans ks1
            go_wp2
            exact Flow.post_det hb3 (Grow.refl _) rfl rfl
          apply Flow.det_step
          · go_light
            intro w1 hC1
            simp only [Flow.fill, Flow.after, Flow.at_, List.nil_append, List.cons_append, List.getD_cons_zero, List.getD_cons_succ, det, forall_eq, List.setIfInBounds_toArray, List.set_cons_zero, List.set_cons_succ, List.drop, List.length]
            have hb3 := hC1
            have hs3 := hb3.size; have hbyy := hby.fr (Fr.of_grow hb3) (fun h => h); have hcx := hbyy.cell; have hlx := hbyy.lt; have k0 := (hb3.cell (p := ⟨gs, os_ + i * 2, none⟩) (Nat.lt_of_lt_of_le hgs2 (by simp))).trans ks0; have k1 := (hb3.cell (p := ⟨gs, os_ + i * 2 + 1, none⟩) (Nat.lt_of_lt_of_le hgs2 (by simp))).trans ks1
            go_wp2
            exact Flow.post_det hb3 (Grow.refl _) rfl rfl
          apply Flow.det_step
          · go_light
            intro w1 hC1
            simp only [Flow.fill, Flow.after, Flow.at_, List.nil_append, List.cons_append, List.getD_cons_zero, List.getD_cons_succ, det, forall_eq, List.setIfInBounds_toArray, List.set_cons_zero, List.set_cons_succ, List.drop, List.length]
            have hb3 := hC1
            have hs3 := hb3.size; have hbyy := hby.fr (Fr.of_grow hb3) (fun h => h); have hcx := hbyy.cell; have hlx := hbyy.lt; have k0 := (hb3.cell (p := ⟨gs, os_ + i * 2, none⟩) (Nat.lt_of_lt_of_le hgs2 (by simp))).trans ks0; have k1 := (hb3.cell (p := ⟨gs, os_ + i * 2 + 1, none⟩) (Nat.lt_of_lt_of_le hgs2 (by simp))).trans ks1
            go_wp2
            exact Flow.post_det hb3 (Grow.refl _) rfl rfl
          apply Flow.det_step
          · go_light
            intro w1 hC1
            simp only [Flow.fill, Flow.after, Flow.at_, List.nil_append, List.cons_append, List.getD_cons_zero, List.getD_cons_succ, det, forall_eq, List.setIfInBounds_toArray, List.set_cons_zero, List.set_cons_succ, List.drop, List.length]
            have hb3 := hC1
            have hs3 := hb3.size; have hbyy := hby.fr (Fr.of_grow hb3) (fun h => h); have hcx := hbyy.cell; have hlx := hbyy.lt; have k0 := (hb3.cell (p := ⟨gs, os_ + i * 2, none⟩) (Nat.lt_of_lt_of_le hgs2 (by simp))).trans ks0; have k1 := (hb3.cell (p := ⟨gs, os_ + i * 2 + 1, none⟩) (Nat.lt_of_lt_of_le hgs2 (by simp))).trans ks1
            go_wp2_with (go_at_call 18; refine (HAD.out _).mono ?_; rintro e w5 ⟨rfl, hb5⟩)
            exact Flow.post_det (hb3.trans (hb5.mono hs3)) hb5 rfl rfl
          apply Flow.det_step
          · go_light
            intro w1 hC1
            simp only [Flow.fill, Flow.after, Flow.at_, List.nil_append, List.cons_append, List.getD_cons_zero, List.getD_cons_succ, det, forall_eq, List.setIfInBounds_toArray, List.set_cons_zero, List.set_cons_succ, List.drop, List.length]
            have hb3 := hC1
            have hs3 := hb3.size; have hbyy := hby.fr (Fr.of_grow hb3) (fun h => h); have hcx := hbyy.cell; have hlx := hbyy.lt; have k0 := (hb3.cell (p := ⟨gs, os_ + i * 2, none⟩) (Nat.lt_of_lt_of_le hgs2 (by simp))).trans ks0; have k1 := (hb3.cell (p := ⟨gs, os_ + i * 2 + 1, none⟩) (Nat.lt_of_lt_of_le hgs2 (by simp))).trans ks1
            go_wp2
            exact Flow.post_det hb3 (Grow.refl _) rfl rfl
          refine Flow.st_step (blkSt (wr.alloc (.cells #[.string s, .int .i64 wh, .int .i64 ad, .bool wk] 56)).heap.size #[.string ByteArray.empty, .int .i64 0, .int .i64 0] 33) ?_ ?_
          · go_light
            intro w1 hC1
            simp only [Flow.fill, Flow.after, Flow.at_, List.nil_append, List.cons_append, List.getD_cons_zero, List.getD_cons_succ, det, forall_eq, List.setIfInBounds_toArray, List.set_cons_zero, List.set_cons_succ, List.drop, List.length]
            have hb3 := hC1
            have hs3 := hb3.size; have hbyy := hby.fr (Fr.of_grow hb3) (fun h => h); have hcx := hbyy.cell; have hlx := hbyy.lt; have k0 := (hb3.cell (p := ⟨gs, os_ + i * 2, none⟩) (Nat.lt_of_lt_of_le hgs2 (by simp))).trans ks0; have k1 := (hb3.cell (p := ⟨gs, os_ + i * 2 + 1, none⟩) (Nat.lt_of_lt_of_le hgs2 (by simp))).trans ks1
            go_wp2
            exact Flow.post_st (hb3.alloc hs3 _) (Grow.alloc _ _) rfl rfl ⟨_, rfl, hs3, Blk.new _ _ _⟩
          intro w1 hC1
          simp only [Flow.fill, Flow.after, Flow.at_, List.nil_append, List.cons_append, List.getD_cons_zero, List.getD_cons_succ, det, forall_eq, List.setIfInBounds_toArray, List.set_cons_zero, List.set_cons_succ, List.drop, List.length]
          rintro _ ⟨g5, rfl, hg5, hblk5⟩
          have hb3 := hC1
          have hs3 := hb3.size; have hc5 := hblk5.cell; have hf5 := hblk5.free; have hl5 := hblk5.lt; have hbyy := hby.fr (Fr.of_grow hb3) (fun h => h); have hcx := hbyy.cell; have hlx := hbyy.lt; have hgn1 : ¬ g5 = wr.heap.size := (by have := hg5; simp at this; omega); have hgn2 : ¬ wr.heap.size = g5 := (by omega)
          go_wp2_with fail
          obtain ⟨W5, hW5⟩ : ∃ W5, W5 = (((w1.setCell ⟨g5, 0, none⟩ (.string s)).setCell ⟨g5, 1, none⟩ (.int .i64 i)).setCell ⟨g5, 2, none⟩ (.int .i64 ao)) := ⟨_, rfl⟩
          rw [← hW5]
          have hfr5 : Below (wr.alloc (.cells #[.string s, .int .i64 wh, .int .i64 ad, .bool wk] 56)).heap.size (wr.alloc (.cells #[.string s, .int .i64 wh, .int .i64 ad, .bool wk] 56)) W5 := by rw [hW5]; exact ((hb3.setCell (p := ⟨g5, 0, none⟩) hg5 _).setCell (p := ⟨g5, 1, none⟩) hg5 _).setCell (p := ⟨g5, 2, none⟩) hg5 _
          have hP5 : Blk W5 g5 #[.string s, .int .i64 i, .int .i64 ao] 33 := by
            rw [hW5]
            have := ((hblk5.set 0 (.string s)).set 1 (.int .i64 i)).set 2 (.int .i64 ao)
            simpa using this
          have hN5 : Blk W5 wr.heap.size #[.string s, .int .i64 wh, .int .i64 ad, .bool wk] 56 := hby.fr (Fr.of_grow hfr5) (fun h => h)
          have hS5 := hS2.grow hfr5
          have hms : s.size ≤ maxLen := by unfold maxLen; omega
          have hlow := hS5.low.size
          have hsz5 : w3.heap.size + 2 ≤ g5 := by have := hS2.st.lt; have := hby.lt; omega
          have hl := hS5.at_.run_lookup_ok Try.underlying9 Try.underlying3 Try.underlying53 (zero3 W5) hms
          have hls := hS5.st.run_lookup Try.underlying9 Try.underlying4 Try.underlying54 (zero4 W5) hms
          have hpl5 : wr.heap.size ≤ W5.heap.size := by have := hfr5.size; simp at this; omega
          clear hW5 hfr5 hblk5 hbyy hc5 hf5 hl5 hcx hlx hb3 hs3 hS2 hby ks0 ks1
          have hcP := hP5.cell
          have hlP := hP5.lt
          have hcN := hN5.cell
          have hlN := hN5.lt
          have hol : (outOf pre).length ≤ pre.length := by
            rw [out_len]
            have : ∀ (l : List En) (met : List (List UInt8)), (uniqGo met l).length ≤ l.length := by
              intro l
              induction l with
              | nil => intro met; simp [uniqGo]
              | cons a l ih => intro met; simp only [uniqGo]; split
                               · have := ih met; simp; omega
                               · have := ih (met ++ [a.key]); simp; omega
            exact this _ _
          have hkey : (⟨s, i, ao, wk⟩ : En).key = s.data.toList := rfl
          cases hmet : (keysOf pre).contains s.data.toList with
          | false =>
            have hpn := place_none hmet
            have hsn : isStrong pre s.data.toList = false := by unfold isStrong; rw [strongs_none hmet]; rfl
            simp only [hpn, Option.map_none, Option.getD_none, Option.isSome_none] at hl
            have hon := out_new (pre := pre) (x := ⟨s, i, ao, wk⟩) hmet
            have hond := dup_not (pre := pre) (x := ⟨s, i, ao, wk⟩) hS5.nd (.inr hsn)
            obtain ⟨w6, hr6, ht6, hg6⟩ := hS5.at_.update (y := ((outOf pre).length : Int)) Try.underlying9 Try.underlying3 Try.underlying53 (by unfold maxLen; omega) hms (by simp [Lit.wf, IntKind.min, IntKind.max, IntKind.signed, IntKind.bits]; omega)
            have ht6' := hS5.put_at (x := ⟨s, i, ao, wk⟩) hmet _ (fun z => rfl) ht6
            have hrow6 := hS5.out.grown hg6 (fun k hk e => by have := (hS5.out.lt k hk).1; injection e with e; omega)
            have hst6 := hS5.st.fr (Fr.of_grown hg6) (fun e => by injection e with e; omega)
            have hP6 := hP5.grown hg6 (by intro e; injection e with e; omega)
            have hN6 := hN5.grown hg6 (by intro e; injection e with e; omega)
            have hlo6 : Below w3.heap.size w3 w6 := hS5.low.grown hg6 hS5.low.size (fun k hk => by injection hk with hk; omega)
            have hcP6 := hP6.cell
            have hcN6 := hN6.cell
            have hlP6 := hP6.lt
            have hlN6 := hN6.lt
            have hsz6 := hlo6.size
            have hob := hrow6.lt
            have HAP := Lib.hid (fun (A8 : Option Addr) (c8 : Nat) w8 (hr8 : Row w8 (w3.heap.size + 2) 33 3 (.slice A8 ((outOf pre).length + 1) c8) ((outOf pre).length + 1) ((outOf pre).flatMap En.cells ++ En.cells ⟨s, i, ao, wk⟩)) => (show Row w8 (w3.heap.size + 2) 33 3 (.slice A8 ((outOf pre).length + 1) c8) (outOf (pre ++ [⟨s, i, ao, wk⟩])).length ((outOf (pre ++ [⟨s, i, ao, wk⟩])).flatMap En.cells) by
              rw [hon]; simp only [List.length_append, List.length_cons, List.length_nil, List.flatMap_append, List.flatMap_cons, List.flatMap_nil, List.append_nil]; exact hr8))
            obtain ⟨A7, c7, hv7, hc71, hc72⟩ := hrow6.shape
            subst hv7
            have HON := Lib.hid hon
            clear hon hS5 ht6
            generalize (outOf pre).length = ol at *
            generalize (outOf pre).flatMap En.cells = oc at *
            rw [hl]
            go_wp2_with (at_builtin; refine wpList_append_row _ rfl (.tmp 71) (.tmp 73) 27 rfl (w3.heap.size + 2) 33 i0 (.agg #[.string ByteArray.empty, .int .i64 0, .int .i64 0]) 3 32 Try.underlying27 hi hz0 hz1 hz2 rfl (by decide) (.slice A7 ol c7) ol oc rfl (hrow6.alloc _) (w6.heap.size + 1) (some ⟨w6.heap.size, 0, none⟩) 1 1 (En.cells ⟨s, i, ao, wk⟩) rfl (bp_reads w6 33 3 1 (En.cells ⟨s, i, ao, wk⟩) rfl) (one_en _) (by unfold maxLen; omega) (by omega) (by simp; omega) ?_)
            intro A8 c8 w8 hr8 hg8 ho8
            have hr8' := HAP.out A8 c8 w8 hr8
            have hf8 : Fr (fun k => (Value.slice A7 ol c7).ownBlock = some k) w6 w8 := ((Fr.refl _ w6).alloc _).grown hg8 (fun k e _ => e)
            have hob7 : ∀ k, (Value.slice A7 ol c7).ownBlock = some k → w3.heap.size + 2 ≤ k := fun k e => (hob k e).1
            have hst8 := hst6.fr hf8 (fun e => by have := hob7 _ e; omega)
            have hat8 := ht6'.fr hf8 (fun e => by have := hob7 _ e; omega)
            have hN8 := hN6.fr hf8 (fun e => bp_row_blk hrow6 hN6 (by decide) e)
            have hls8 := hst8.run_lookup Try.underlying9 Try.underlying4 Try.underlying54 (zero4 w8) hms
            rw [hsn] at hls8
            obtain ⟨w9, hr9, hst9, hg9⟩ := hst8.update Try.underlying9 Try.underlying4 Try.underlying54 (by unfold maxLen; omega) hms (!wk)
            replace hst9 : TextBool Try.prog w9 9 4 (w3.heap.size + 1) (m2 + 1) (isStrong (pre ++ [⟨s, i, ao, wk⟩])) := by
              rw [← strong_fun pre ⟨s, i, ao, wk⟩ (!wk) (by rw [hkey, hsn]; simp)]; exact hst9
            have hlo8 : Below w3.heap.size w3 w8 := hlo6.trans (hf8.below hsz6 (fun k e => by have := hob7 k e; omega))
            have HS9 : Hid (PlS w3 w9 (pre ++ [⟨s, i, ao, wk⟩]) (.slice A8 (ol + 1) c8) (m1 + 1) (m2 + 1)) := Lib.hid ⟨hlo8.grown hg9 hlo8.size (fun k hk => by injection hk with hk; omega), hr8'.grown hg9 (fun k hk e => by have := (hr8.lt k hk).1; injection e with e; omega), hat8.fr (Fr.of_grown hg9) (fun e => by injection e with e; omega), hst9, hond⟩
            have hc8 := hN8.cell
            have hl8 := hN8.lt
            clear hg9 hst9 hat8 hst8 hf8 hr8 hr8' hg8 ho8 ht6' hst6 hrow6 hP6 hcP6 hcN6 hlP6 hlN6 hN6 hcP hcN hlP hlN hP5 hN5 hlo8
            go_wp2
            go_roundw
            case rel => exact ⟨k + 1, m1 + 1, m2 + 1, by omega, by omega, by omega, by go_num, by rw [HSU.out]; exact HS9.out⟩
            case measure => simp [intOf]; omega
          | true =>
            obtain ⟨i1, hp1, hp2, hp3⟩ := place_some hmet
            simp only [hp1, Option.map_some, Option.getD_some, Option.isSome_some] at hl
            rw [hl]
            cases wk with
            | true =>
              have hon := out_weak (pre := pre) (x := ⟨s, i, ao, true⟩) hmet rfl
              have hond := dup_not (pre := pre) (x := ⟨s, i, ao, true⟩) hS5.nd (.inl rfl)
              obtain ⟨w9, hr9, hst9, hg9⟩ := hS5.st.update Try.underlying9 Try.underlying4 Try.underlying54 (by unfold maxLen; omega) hms (isStrong pre s.data.toList)
              replace hst9 : TextBool Try.prog w9 9 4 (w3.heap.size + 1) (m2 + 1) (isStrong (pre ++ [⟨s, i, ao, true⟩])) := by
                rw [← strong_fun pre ⟨s, i, ao, true⟩ (isStrong pre s.data.toList) (by rw [hkey]; simp)]; exact hst9
              have HS9 : Hid (PlS w3 w9 (pre ++ [⟨s, i, ao, true⟩]) _ m1 (m2 + 1)) := Lib.hid ⟨hS5.low.grown hg9 hS5.low.size (fun k hk => by injection hk with hk; omega), by rw [hon]; exact hS5.out.grown hg9 (fun k hk e => by have := (hS5.out.lt k hk).1; injection e with e; omega), by
                have e : (fun k => (placeOf (pre ++ [⟨s, i, ao, true⟩]) k).map fun i : Nat => (i : Int)) = (fun k => (placeOf pre k).map fun i : Nat => (i : Int)) := by funext z; rw [place_old hmet]
                rw [e]; exact hS5.at_.fr (Fr.of_grown hg9) (fun e => by injection e with e; omega), hst9, hond⟩
              clear hg9 hst9 hS5
              cases hb0 : isStrong pre s.data.toList with
              | true =>
                rw [hb0] at hls hr9
                go_wp2
                go_roundw
                case rel => exact ⟨k + 1, m1, m2 + 1, by omega, by omega, by omega, by go_num, by rw [HSU.out]; exact HS9.out⟩
                case measure => simp [intOf]; omega
              | false =>
                rw [hb0] at hls hr9
                go_wp2
                go_roundw
                case rel => exact ⟨k + 1, m1, m2 + 1, by omega, by omega, by omega, by go_num, by rw [HSU.out]; exact HS9.out⟩
                case measure => simp [intOf]; omega
            | false =>
              cases hb0 : isStrong pre s.data.toList with
              | true =>
                rw [hb0] at hls
                have hp : Hid (plErr os = 5) := Lib.hid (by
                  obtain ⟨r, hr⟩ := hspl2
                  rw [HE.out, hr, dup_app (dup_hit (x := ⟨s, i, ao, false⟩) rfl hb0)]; rfl)
                have hfin : Hid (Below w.heap.size w W5) := Lib.hid (HB3.out.trans (hS5.low.mono hsz3))
                go_wp2
                go_ret2
                exact PlPost.bad hp.out (by omega) hfin.out
              | false =>
                rw [hb0] at hls
                have hon := out_set (pre := pre) (x := ⟨s, i, ao, false⟩) hmet rfl hp1
                have hond := dup_not (pre := pre) (x := ⟨s, i, ao, false⟩) hS5.nd (.inr hb0)
                obtain ⟨A7, c7, hv7, hc71, hc72⟩ := hS5.out.shape
                subst hv7
                have hi1 : i1 < (outOf pre).length := by rw [out_len]; exact hp2
                obtain ⟨g7, o7, rfl, hg71, hg72, hf7, hcell7⟩ := bp_row_lt hS5.out hi1
                obtain ⟨e9, he9⟩ : ∃ e, (outOf pre)[i1]? = some e := ⟨_, List.getElem?_eq_getElem hi1⟩
                have hat := flat_at3 he9
                clear he9
                have q0 := hcell7 _ _ hat.1
                have q1 := hcell7 _ _ hat.2.1
                have q2 := hcell7 _ _ hat.2.2
                rw [← Nat.add_assoc] at q1 q2
                have f0 := hf7 (o7 + i1 * 3)
                have f1 := hf7 (o7 + i1 * 3 + 1)
                have f2 := hf7 (o7 + i1 * 3 + 2)
                have hlt7 : g7 < wr.heap.size := (hovl g7 rfl).2
                have n1 : ¬ g7 = g5 := by have := hg5; simp at this; omega
                have n2 : ¬ g5 = g7 := fun e => n1 e.symm
                have n3 : ¬ g7 = wr.heap.size := by omega
                have n4 : ¬ wr.heap.size = g7 := by omega
                have hw1 := ((hS5.out.stored (j := i1 * 3) (by omega) (.string s)).stored (j := i1 * 3 + 1) (by omega) (.int .i64 i)).stored (j := i1 * 3 + 2) (by omega) (.int .i64 ao)
                have hfl := flat_set3 (outOf pre) i1 ⟨s, i, ao, false⟩ hi1
                dsimp only at hfl
                rw [hfl, ← hon] at hw1
                rw [← Nat.add_assoc, ← Nat.add_assoc] at hw1
                obtain ⟨W6, hW6⟩ : ∃ W6, W6 = (((W5.setCell ⟨g7, o7 + i1 * 3, none⟩ (.string s)).setCell ⟨g7, o7 + i1 * 3 + 1, none⟩ (.int .i64 i)).setCell ⟨g7, o7 + i1 * 3 + 2, none⟩ (.int .i64 ao)) := ⟨_, rfl⟩
                rw [← hW6] at hw1
                have hll : (outOf (pre ++ [⟨s, i, ao, false⟩])).length = (outOf pre).length := by rw [hon, List.length_set]
                have hf6 : Fr (fun k => k = g7) W5 W6 := by rw [hW6]; exact (((Fr.refl (fun k => k = g7) W5).setCell (p := ⟨g7, o7 + i1 * 3, none⟩) (fun _ => rfl) _).setCell (p := ⟨g7, o7 + i1 * 3 + 1, none⟩) (fun _ => rfl) _).setCell (p := ⟨g7, o7 + i1 * 3 + 2, none⟩) (fun _ => rfl) _
                have hst6 := hS5.st.fr hf6 (fun e => by omega)
                have hat6 := hS5.at_.fr hf6 (fun e => by omega)
                have hlo6 := hS5.low.trans (hf6.below (B := w3.heap.size) hlow (fun k e => by omega))
                have hN6 := hN5.fr hf6 (fun e => n4 e)
                have hls6 := hst6.run_lookup Try.underlying9 Try.underlying4 Try.underlying54 (zero4 W6) hms
                rw [hb0] at hls6
                obtain ⟨w9, hr9, hst9, hg9⟩ := hst6.update Try.underlying9 Try.underlying4 Try.underlying54 (by unfold maxLen; omega) hms true
                replace hst9 : TextBool Try.prog w9 9 4 (w3.heap.size + 1) (m2 + 1) (isStrong (pre ++ [⟨s, i, ao, false⟩])) := by
                  rw [← strong_fun pre ⟨s, i, ao, false⟩ true (by rw [hkey]; simp)]; exact hst9
                have HS9 : Hid (PlS w3 w9 (pre ++ [⟨s, i, ao, false⟩]) (.slice (some ⟨g7, o7, none⟩) (outOf pre).length c7) m1 (m2 + 1)) := Lib.hid ⟨hlo6.grown hg9 hlo6.size (fun k hk => by injection hk with hk; omega), by rw [hll]; exact hw1.grown hg9 (fun k hk e => by have := (hw1.lt k hk).1; injection e with e; omega), by
                  have e : (fun k => (placeOf (pre ++ [⟨s, i, ao, false⟩]) k).map fun i : Nat => (i : Int)) = (fun k => (placeOf pre k).map fun i : Nat => (i : Int)) := by funext z; rw [place_old hmet]
                  rw [e]; exact hat6.fr (Fr.of_grown hg9) (fun e => by injection e with e; omega), hst9, hond⟩
                have hc6 := hN6.cell
                have hl6 := hN6.lt
                have HW6 := Lib.hid hW6
                clear hW6 hst9 hg9 hst6 hat6 hlo6 hf6 hll hw1 hfl hat hcell7 hf7 hon hond hp3
                generalize (outOf pre).length = ol at *
                go_wp2_with fail
                rw [← HW6.out, hls6]
                go_wp2
                go_roundw
                case rel => exact ⟨k + 1, m1, m2 + 1, by omega, by omega, by omega, by go_num, by rw [HSU.out]; exact HS9.out⟩
                case measure => simp [intOf]; omega
end Go.Proofs.Ytmndmdipjfblhaa
