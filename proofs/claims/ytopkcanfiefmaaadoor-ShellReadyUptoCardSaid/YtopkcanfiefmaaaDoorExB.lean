/- Contracts of the library by the shelf: Itoa, Split; the object of a word's fields: add f8, end f11 (printed by mkExB.py). -/
import Derived.Test.YtopkcanfiefmaaaDoorExA
import Derived.Test.YtopkcanfiefmaaaDoorOwnC
import Derived.Test.YtopkcanfiefmaaaDoorProg
import Derived.Shelf.Lay
import Derived.Shelf.LaysM
import Derived.Shelf.Strings.Split
import Derived.Shelf.Strconv.Itoa3
import Derived.Shelf.Vars
import Derived.Lib.ItoaLen
import Derived.Lib.SmallJoins
import Derived.Ground.NamesProg
import Derived.Deep.CutBlock
import Derived.Deep.DeepCutAuto
import Derived.Deep.Light
namespace Go.Proofs
open Go.Shelf
shelf_lay Lays.n146 Nm 146 at Tryd as Tryd.lays146
shelf_lay LaysM.n171 Nm 171 at Tryd as Tryd.lays171
end Go.Proofs
namespace Go.Proofs.YtopkcanfiefmaaaDoor
open Go.RowKit
set_option maxHeartbeats 400000
set_option linter.unusedVariables false
set_option linter.unusedSimpArgs false
/-- What the walk reads of the package variables. -/
structure VarOk (w : World) : Prop where
  lt : 1 < w.heap.size
  tab : Lib.TabIs Tryd.prog w "internal/strconv.uint64pow10" .u64 Lib.pow10Tab
  max : ∃ m, w.cell? ⟨1, 0, none⟩ = some (.int .i64 m)
theorem pow_global : Tryd.prog.globalNamed "internal/strconv.uint64pow10" = some 0 := by kernel_rfl
theorem VarOk.of {w w' : World} (h : VarOk w) (h0 : w'.heap[0]? = w.heap[0]?) (h1 : w'.heap[1]? = w.heap[1]?) (hs : w.heap.size ≤ w'.heap.size) : VarOk w' := by
  obtain ⟨hl, ht, m, hm⟩ := h
  refine ⟨by omega, ?_, m, ?_⟩
  · unfold Lib.TabIs World.var? at ht ⊢
    rw [pow_global] at ht ⊢
    simp only [Option.bind_some] at ht ⊢
    rw [h0]; exact ht
  · exact (World.cell?_of_block (a := ⟨1, 0, none⟩) h1).trans hm
theorem VarOk.below {w w' : World} (h : VarOk w) {B : Nat} (hb : Below B w w') (hB : 1 < B) : VarOk w' := h.of (hb.block 0 (by omega)) (hb.block 1 hB) hb.size
theorem VarOk.fr {S : Nat → Prop} {w w' : World} (h : VarOk w) (hf : Fr S w w') (h0 : ¬ S 0) (h1 : ¬ S 1) : VarOk w' := by
  have := h.lt
  exact h.of (hf.block 0 (by omega) h0) (hf.block 1 (by omega) h1) hf.size
/-- The status as a text. -/
def itoaS (k : Int) : ByteArray := bs (Lib.itoa k)
theorem itoaS_le (k : Int) (h0 : -9223372036854775808 ≤ k) (h1 : k ≤ 9223372036854775807) : (itoaS k).size ≤ 60 := by
  have := Lib.itoa_length_le k h0 h1
  show (Lib.itoa k).length ≤ 60
  omega
def SaysB (v : Value) (w : World) (e : Ending) (w' : World) : Prop := e = .returned v ∧ Below w.heap.size w w'
theorem below_growN (w : World) (k : Nat) (os : Array Obj) : Below w.heap.size w (Sort.grow (w.drewN k) os) :=
  ⟨rfl, rfl, rfl, by simp, fun j hj => by show (w.heap ++ os)[j]? = _; rw [Array.getElem?_append_left hj]⟩
theorem itoa_any (k : Int) (w : World) (h0 : -9223372036854775808 ≤ k) (h1 : k ≤ 9223372036854775807) (hv : VarOk w) : Calls Tryd.prog 16 #[.int .i64 k] w (SaysB (.string (itoaS k)) w) :=
  (Any.strconv_Itoa Tryd.lays171 k h0 h1 w hv.tab).mono (by
    rintro e w' ⟨rfl, j, os, rfl⟩
    exact ⟨rfl, below_growN w j os⟩)
theorem infoStr : (Tryd.prog.info? 9).map (fun i => (i.zero, i.size, i.bytes)) = some (some (.string ByteArray.empty), 1, 16) := by kernel_rfl
theorem split_any (s : ByteArray) (w : World) (hs : s.size < 4294967281) (hv : VarOk w) : Calls Tryd.prog 17 #[.string s, .string ⟨#[32]⟩] w fun e w' => e = .returned (.slice (some ⟨w.heap.size, 0, none⟩) (spl s.data.toList).length (spl s.data.toList).length) ∧ w' = w.alloc (.cells ((spl s.data.toList).map (fun x => Value.string (bs x))).toArray 9) := by
  obtain ⟨m, hm⟩ := hv.max
  have h := Any.strings_Split Tryd.lays146 infoStr s ⟨#[32]⟩ m w hs hm (by decide)
  have hl := Lib.splitB_all ⟨#[32]⟩ (by decide) 0 _ s rfl
  have hct : Lib.countB s ⟨#[32]⟩ = s.data.toList.count 32 := Lib.count_one 32 _
  have hd : (Lib.splitB ⟨#[32]⟩ 0 (Lib.countB s ⟨#[32]⟩) s).map (·.data.toList) = spl s.data.toList := by
    rw [Lib.splitB_data, hct]; rfl
  have hm2 : (Lib.splitB ⟨#[32]⟩ 0 (Lib.countB s ⟨#[32]⟩) s).map Value.string = (spl s.data.toList).map (fun x => Value.string (bs x)) := by
    rw [← hd, List.map_map]; rfl
  have hn : Lib.countB s ⟨#[32]⟩ + 1 = (spl s.data.toList).length := by
    rw [← hl, ← hd, List.length_map]
  rw [hm2, hn] at h
  exact h
/-! the object -/
theorem infoS : (Tryd.prog.info? 9).map (fun i => (i.zero, i.size, i.bytes)) = some (some (.string ⟨#[]⟩), 1, 16) := by kernel_rfl
theorem str_oneCell (s : ByteArray) : ∀ u ∈ [Value.string s], u.oneCell' = true := by
  intro u hu
  simp at hu
  subst hu; rfl
structure FdSt (w : World) (B g : Nat) (A : Option Addr) (n c : Nat) (f : Fs) : Prop where
  blk : Blk w g #[.slice A n c, .string f.now, .bool f.some] 47
  row : Row w B 9 1 (.slice A n c) n (f.out.map Value.string)
  len : f.out.length = n
  lt : g < B
  base : B ≤ w.heap.size
def FrG (B g : Nat) (w w' : World) : Prop := Fr (fun k => k = g ∨ B ≤ k) w w'
theorem FrG.refl (B g : Nat) (w : World) : FrG B g w w := Fr.refl _ w
theorem FrG.trans {B g : Nat} {w w' w'' : World} (h : FrG B g w w') (h' : FrG B g w' w'') : FrG B g w w'' := Fr.trans' h h'
theorem FrG.drew {B g : Nat} {w w' : World} (h : FrG B g w w') : FrG B g w w'.drew := Fr.drew h
theorem FrG.of_below {B g : Nat} {w w' : World} (h : Below w.heap.size w w') (hB : B ≤ w.heap.size) : FrG B g w w' := (Fr.of_below h).mono fun k hk hs => by omega
theorem FrG.setCell {B g : Nat} {w w' : World} (h : FrG B g w w') {p : Addr} (hp : p.block = g ∨ B ≤ p.block) (u : Value) : FrG B g w (w'.setCell p u) := Fr.setCell h (p := p) (fun _ => hp) u
def FdAt (w : World) (B g : Nat) (f : Fs) : Prop := ∃ A n c, FdSt w B g A n c f
def FdPost (B g : Nat) (f : Fs) (w : World) (e : Ending) (w' : World) : Prop := e = .returned (.tuple #[]) ∧ FdAt w' B g f ∧ FrG B g w w'
theorem FdSt.below {w w' : World} {B g : Nat} {A : Option Addr} {n c : Nat} {f : Fs} (h : FdSt w B g A n c f) (hb : Below w.heap.size w w') : FdSt w' B g A n c f :=
  ⟨h.blk.fr (Fr.of_grow hb) (fun h => h), h.row.grow hb, h.len, h.lt, Nat.le_trans h.base hb.size⟩
theorem FdAt.below {w w' : World} {B g : Nat} {f : Fs} (h : FdAt w B g f) (hb : Below w.heap.size w w') : FdAt w' B g f := by
  obtain ⟨A, n, c, h⟩ := h
  exact ⟨A, n, c, h.below hb⟩
/-- The text and the mark are set. -/
theorem FdSt.setNow {w : World} {B g : Nat} {A : Option Addr} {n c : Nat} {f : Fs} (h : FdSt w B g A n c f) (s : ByteArray) (b : Bool) :
    FdSt ((w.setCell ⟨g, 1, none⟩ (.string s)).setCell ⟨g, 2, none⟩ (.bool b)) B g A n c ⟨f.out, s, b⟩ := by
  have hne : (Value.slice A n c).ownBlock ≠ some g := fun e => by have e1 : B ≤ g := (h.row.lt _ e).1; have := h.lt; omega
  refine ⟨by simpa using (h.blk.set 1 (.string s)).set 2 (.bool b), ?_, h.len, h.lt, by simpa using h.base⟩
  exact (h.row.setCell (p := ⟨g, 1, none⟩) hne _).setCell (p := ⟨g, 2, none⟩) hne _
theorem FdSt.app {w w1 : World} {B g : Nat} {A : Option Addr} {n c : Nat} {f : Fs} {A2 : Option Addr} {c2 : Nat} (h : FdSt w B g A n c f)
    (hf : Fr (fun k => (Value.slice A n c).ownBlock = some k) w w1) (hr2 : Row w1 B 9 1 (.slice A2 (n + 1) c2) (n + 1) (f.out.map Value.string ++ [Value.string f.now])) :
    Blk w1 g #[.slice A n c, .string f.now, .bool f.some] 47 ∧ FdSt (w1.setCell ⟨g, 0, none⟩ (.slice A2 (n + 1) c2)) B g A2 (n + 1) c2 ⟨f.out ++ [f.now], f.now, f.some⟩ ∧ FrG B g w (w1.setCell ⟨g, 0, none⟩ (.slice A2 (n + 1) c2)) := by
  have hlt := h.lt
  have hb := h.base
  have hf' : FrG B g w w1 := hf.mono fun k _ hk => .inr (h.row.lt k hk).1
  have hblk : Blk w1 g #[.slice A n c, .string f.now, .bool f.some] 47 := h.blk.fr hf (fun e => by have e1 : B ≤ g := (h.row.lt g e).1; omega)
  have hs := hf.size
  refine ⟨hblk, ⟨by simpa using hblk.set 0 (.slice A2 (n + 1) c2), ?_, by simp [h.len], hlt, by simp; omega⟩, hf'.setCell (.inl rfl) _⟩
  simpa using hr2.setCell (p := ⟨g, 0, none⟩) (fun e => by have e1 : B ≤ g := (hr2.lt _ e).1; omega) (.slice A2 (n + 1) c2)
set_option maxHeartbeats 1000000 in
set_option maxRecDepth 100000 in
theorem add_any (B g : Nat) (f : Fs) (s : ByteArray) (w : World) (h : FdAt w B g f) (hs : f.now.size + s.size ≤ 9223372036854775807) :
    Calls Tryd.prog 10 #[.pointer (some ⟨g, 0, none⟩), .string s] w (FdPost B g (f.add s) w) := by
  obtain ⟨A, n, c, h⟩ := h
  have hc := h.blk.cell
  have hlt := h.blk.lt
  have hfz := h.blk.free
  have HE : Hid (FdPost B g (f.add s) w (.returned (.tuple #[])) ((w.setCell ⟨g, 1, none⟩ (.string (f.now ++ s))).setCell ⟨g, 2, none⟩ (.bool true))) :=
    Lib.hid ⟨rfl, ⟨A, n, c, h.setNow _ _⟩, ((FrG.refl B g w).setCell (.inl rfl) _).setCell (.inl rfl) _⟩
  clear h
  have hsz : ¬ 9223372036854775807 < f.now.size + s.size := by omega
  obtain ⟨out, now, some⟩ := f
  dsimp only at hc hs hsz HE ⊢
  go_enter Tryd.func10, Tryd.ntmps10
  go_wp2
  refine bodyPost_ret (v := .tuple #[]) (by simp [results, Tryd.results10, go_sem]) rfl ?_
  exact HE.out
set_option maxHeartbeats 4000000 in
set_option maxRecDepth 100000 in
theorem end_any (B g : Nat) (f : Fs) (w : World) (h : FdAt w B g f) (hn : f.out.length ≤ 5000000000000) :
    Calls Tryd.prog 13 #[.pointer (some ⟨g, 0, none⟩)] w (FdPost B g f.fin w) := by
  obtain ⟨i0, hi, hz0, hz1, hz2⟩ := info_parts infoS
  obtain ⟨A, n, c, h⟩ := h
  have hlen := h.len
  have hc := h.blk.cell
  have hlt := h.blk.lt
  have hfz := h.blk.free
  have H := Lib.hid h
  cases hb : f.some with
  | false =>
    have HE : Hid (FdPost B g f.fin w (.returned (.tuple #[])) ((w.setCell ⟨g, 1, none⟩ (.string ⟨#[]⟩)).setCell ⟨g, 2, none⟩ (.bool false))) :=
      Lib.hid ⟨rfl, ⟨A, n, c, by unfold Fs.fin; rw [hb]; exact h.setNow _ _⟩, ((FrG.refl B g w).setCell (.inl rfl) _).setCell (.inl rfl) _⟩
    rw [hb] at hc
    clear h H hlen
    go_enter Tryd.func13, Tryd.ntmps13
    go_wp2
    refine bodyPost_ret (v := .tuple #[]) (by simp [results, Tryd.results13, go_sem]) rfl ?_
    exact HE.out
  | true =>
    have hfin : f.fin = ⟨f.out ++ [f.now], ByteArray.empty, false⟩ := by unfold Fs.fin; rw [hb]; rfl
    rw [hb] at hc
    go_enter Tryd.func13, Tryd.ntmps13
    go_wp2_with fail
    obtain ⟨wS, hwS⟩ : ∃ wS, wS = w := ⟨_, rfl⟩
    rw [← hwS] at H hc hlt hfz ⊢
    have HW := Lib.hid hwS
    clear hwS h
    have HRS := Lib.hid H.out.row
    have hBS := H.out.base
    have hc0 := hc 0
    have hc1 := hc 1
    have hc2 := hc 2
    have hlg := hlt
    have hng : ¬ (Value.slice A n c).ownBlock = some g := fun e => by
      have e1 : B ≤ g := (HRS.out.lt g e).1
      have := H.out.lt
      omega
    dsimp at hc0 hc1 hc2
    clear hc hlt hfz
    refine FR.wp_region_walk (AppF B 9 1 wS.heap.size A n c (n + 1) (f.out.map Value.string ++ [Value.string f.now])) (fun w' => Fr (fun k => (Value.slice A n c).ownBlock = some k) wS w' ∧ Row w' B 9 1 (.slice A n c) n (f.out.map Value.string)) [[], [], [(7, 1)], [(8, 2)], [(9, 3)], [], [(11, 5)], [(12, 6)], [(13, 7)], [(14, 8)], [(10, 4), (15, 9)], [(6, 0)], [(17, 11)]]
      [(6, 0), (7, 1), (8, 2), (9, 3), (10, 4), (11, 5), (12, 6), (13, 7), (14, 8), (15, 9), (16, 10), (17, 11), (18, 12)] (by kernel_rfl) (by kernel_rfl) (by kernel_rfl) ⟨(Fr.refl _ _).drew, HRS.out.drew⟩ ?_
    apply FR.Flow.det_step
    · go_light
      intro w1 hC1
      simp only [FR.Flow.fill, FR.Flow.after, FR.Flow.at_, List.nil_append, List.cons_append, List.getD_cons_zero, List.getD_cons_succ, FR.det, forall_eq, List.setIfInBounds_toArray, List.set_cons_zero, List.set_cons_succ, List.drop, List.length]
      obtain ⟨hf, hr⟩ := hC1
      have k0 := (hf.cell (p := ⟨g, 0, none⟩) hlg hng).trans hc0; have k1 := (hf.cell (p := ⟨g, 1, none⟩) hlg hng).trans hc1; have k2 := (hf.cell (p := ⟨g, 2, none⟩) hlg hng).trans hc2; have s1 := hf.size
      go_wp2
      exact FR.Flow.post_det ⟨hf, hr⟩ (AppF.refl _) rfl rfl
    apply FR.Flow.det_step
    · go_light
      intro w1 hC1
      simp only [FR.Flow.fill, FR.Flow.after, FR.Flow.at_, List.nil_append, List.cons_append, List.getD_cons_zero, List.getD_cons_succ, FR.det, forall_eq, List.setIfInBounds_toArray, List.set_cons_zero, List.set_cons_succ, List.drop, List.length]
      obtain ⟨hf, hr⟩ := hC1
      have k0 := (hf.cell (p := ⟨g, 0, none⟩) hlg hng).trans hc0; have k1 := (hf.cell (p := ⟨g, 1, none⟩) hlg hng).trans hc1; have k2 := (hf.cell (p := ⟨g, 2, none⟩) hlg hng).trans hc2; have s1 := hf.size
      go_wp2
      exact FR.Flow.post_det ⟨hf, hr⟩ (AppF.refl _) rfl rfl
    apply FR.Flow.det_step
    · go_light
      intro w1 hC1
      simp only [FR.Flow.fill, FR.Flow.after, FR.Flow.at_, List.nil_append, List.cons_append, List.getD_cons_zero, List.getD_cons_succ, FR.det, forall_eq, List.setIfInBounds_toArray, List.set_cons_zero, List.set_cons_succ, List.drop, List.length]
      obtain ⟨hf, hr⟩ := hC1
      have k0 := (hf.cell (p := ⟨g, 0, none⟩) hlg hng).trans hc0; have k1 := (hf.cell (p := ⟨g, 1, none⟩) hlg hng).trans hc1; have k2 := (hf.cell (p := ⟨g, 2, none⟩) hlg hng).trans hc2; have s1 := hf.size
      go_wp2
      exact FR.Flow.post_det ⟨hf, hr⟩ (AppF.refl _) rfl rfl
    apply FR.Flow.det_step
    · go_light
      intro w1 hC1
      simp only [FR.Flow.fill, FR.Flow.after, FR.Flow.at_, List.nil_append, List.cons_append, List.getD_cons_zero, List.getD_cons_succ, FR.det, forall_eq, List.setIfInBounds_toArray, List.set_cons_zero, List.set_cons_succ, List.drop, List.length]
      obtain ⟨hf, hr⟩ := hC1
      have k0 := (hf.cell (p := ⟨g, 0, none⟩) hlg hng).trans hc0; have k1 := (hf.cell (p := ⟨g, 1, none⟩) hlg hng).trans hc1; have k2 := (hf.cell (p := ⟨g, 2, none⟩) hlg hng).trans hc2; have s1 := hf.size
      go_wp2
      exact FR.Flow.post_det ⟨hf, hr⟩ (AppF.refl _) rfl rfl
    apply FR.Flow.det_step
    · go_light
      intro w1 hC1
      simp only [FR.Flow.fill, FR.Flow.after, FR.Flow.at_, List.nil_append, List.cons_append, List.getD_cons_zero, List.getD_cons_succ, FR.det, forall_eq, List.setIfInBounds_toArray, List.set_cons_zero, List.set_cons_succ, List.drop, List.length]
      obtain ⟨hf, hr⟩ := hC1
      have k0 := (hf.cell (p := ⟨g, 0, none⟩) hlg hng).trans hc0; have k1 := (hf.cell (p := ⟨g, 1, none⟩) hlg hng).trans hc1; have k2 := (hf.cell (p := ⟨g, 2, none⟩) hlg hng).trans hc2; have s1 := hf.size
      go_wp2
      exact FR.Flow.post_det ⟨hf, hr⟩ (AppF.refl _) rfl rfl
    apply FR.Flow.det_step
    · go_light
      intro w1 hC1
      simp only [FR.Flow.fill, FR.Flow.after, FR.Flow.at_, List.nil_append, List.cons_append, List.getD_cons_zero, List.getD_cons_succ, FR.det, forall_eq, List.setIfInBounds_toArray, List.set_cons_zero, List.set_cons_succ, List.drop, List.length]
      obtain ⟨hf, hr⟩ := hC1
      have k0 := (hf.cell (p := ⟨g, 0, none⟩) hlg hng).trans hc0; have k1 := (hf.cell (p := ⟨g, 1, none⟩) hlg hng).trans hc1; have k2 := (hf.cell (p := ⟨g, 2, none⟩) hlg hng).trans hc2; have s1 := hf.size
      go_wp2
      exact FR.Flow.post_det ⟨hf, hr⟩ (AppF.refl _) rfl rfl
    apply FR.Flow.det_step
    · go_light
      intro w1 hC1
      simp only [FR.Flow.fill, FR.Flow.after, FR.Flow.at_, List.nil_append, List.cons_append, List.getD_cons_zero, List.getD_cons_succ, FR.det, forall_eq, List.setIfInBounds_toArray, List.set_cons_zero, List.set_cons_succ, List.drop, List.length]
      obtain ⟨hf, hr⟩ := hC1
      have k0 := (hf.cell (p := ⟨g, 0, none⟩) hlg hng).trans hc0; have k1 := (hf.cell (p := ⟨g, 1, none⟩) hlg hng).trans hc1; have k2 := (hf.cell (p := ⟨g, 2, none⟩) hlg hng).trans hc2; have s1 := hf.size
      go_wp2
      exact FR.Flow.post_det ⟨hf, hr⟩ (AppF.refl _) rfl rfl
    apply FR.Flow.det_step
    · go_light
      intro w1 hC1
      simp only [FR.Flow.fill, FR.Flow.after, FR.Flow.at_, List.nil_append, List.cons_append, List.getD_cons_zero, List.getD_cons_succ, FR.det, forall_eq, List.setIfInBounds_toArray, List.set_cons_zero, List.set_cons_succ, List.drop, List.length]
      obtain ⟨hf, hr⟩ := hC1
      have k0 := (hf.cell (p := ⟨g, 0, none⟩) hlg hng).trans hc0; have k1 := (hf.cell (p := ⟨g, 1, none⟩) hlg hng).trans hc1; have k2 := (hf.cell (p := ⟨g, 2, none⟩) hlg hng).trans hc2; have s1 := hf.size
      go_wp2
      exact FR.Flow.post_det ⟨hf, hr⟩ (AppF.refl _) rfl rfl
    apply FR.Flow.det_step
    · go_light
      intro w1 hC1
      simp only [FR.Flow.fill, FR.Flow.after, FR.Flow.at_, List.nil_append, List.cons_append, List.getD_cons_zero, List.getD_cons_succ, FR.det, forall_eq, List.setIfInBounds_toArray, List.set_cons_zero, List.set_cons_succ, List.drop, List.length]
      obtain ⟨hf, hr⟩ := hC1
      have k0 := (hf.cell (p := ⟨g, 0, none⟩) hlg hng).trans hc0; have k1 := (hf.cell (p := ⟨g, 1, none⟩) hlg hng).trans hc1; have k2 := (hf.cell (p := ⟨g, 2, none⟩) hlg hng).trans hc2; have s1 := hf.size
      go_wp2
      exact FR.Flow.post_det ⟨hf, hr⟩ (AppF.refl _) rfl rfl
    refine FR.Flow.st_step (bufSt B 9 1 wS.heap.size A n c (n + 1) (f.out.map Value.string ++ [Value.string f.now]) (fun g => .slice (some ⟨g, 0, none⟩) 1 1) [Value.string f.now]) ?_ ?_
    · go_light
      intro w1 hC1
      simp only [FR.Flow.fill, FR.Flow.after, FR.Flow.at_, List.nil_append, List.cons_append, List.getD_cons_zero, List.getD_cons_succ, FR.det, forall_eq, List.setIfInBounds_toArray, List.set_cons_zero, List.set_cons_succ, List.drop, List.length]
      obtain ⟨hf, hr⟩ := hC1
      have k0 := (hf.cell (p := ⟨g, 0, none⟩) hlg hng).trans hc0; have k1 := (hf.cell (p := ⟨g, 1, none⟩) hlg hng).trans hc1; have k2 := (hf.cell (p := ⟨g, 2, none⟩) hlg hng).trans hc2; have s1 := hf.size
      go_wp2
      exact FR.Flow.post_st ⟨hf.alloc _, hr.alloc _⟩ (AppF.alloc _ _) rfl rfl (buf_alloc w1 9 [Value.string f.now] _ rfl (by rfl) (fun k hk => (hr.lt k hk).2) s1)
    refine FR.Flow.st_step (appfSt B 9 1 wS.heap.size A n c (n + 1) (f.out.map Value.string ++ [Value.string f.now])) ?_ ?_
    · go_light
      intro w1 hC1
      simp only [FR.Flow.fill, FR.Flow.after, FR.Flow.at_, List.nil_append, List.cons_append, List.getD_cons_zero, List.getD_cons_succ, FR.det, forall_eq, List.setIfInBounds_toArray, List.set_cons_zero, List.set_cons_succ, List.drop, List.length]
      rintro _ ⟨g6, rfl, hg6n, hg6s, hg6, hcs6⟩
      obtain ⟨hf, hr⟩ := hC1
      have k0 := (hf.cell (p := ⟨g, 0, none⟩) hlg hng).trans hc0; have k1 := (hf.cell (p := ⟨g, 1, none⟩) hlg hng).trans hc1; have k2 := (hf.cell (p := ⟨g, 2, none⟩) hlg hng).trans hc2; have s1 := hf.size
      refine wpList_append_row_at w1 rfl (.tmp 10) (.tmp 15) 27 rfl B 9 i0 (.string ⟨#[]⟩) 1 16 Tryd.underlying27 hi hz0 hz1 hz2 rfl (by decide) A n c (f.out.map Value.string) rfl hr _ (some ⟨g6, 0, none⟩) 1 1 [Value.string f.now] rfl (buf_reads rfl hg6 hcs6) (str_oneCell _) (by unfold maxLen; omega) (by omega) (Nat.le_trans hBS s1) (by decide) wS.heap.size s1 (fun k hk => (HRS.out.lt k hk).2) ?_
      intro A9 c9 w9 hA9 hR9 hr9 hg9
      exact FR.Flow.post_st ⟨hf.grown hg9 (fun k e _ => e), hr9⟩ hR9 rfl rfl ⟨A9, c9, rfl, hA9⟩
    apply FR.Flow.det_step
    · go_light
      intro w1 hC1
      simp only [FR.Flow.fill, FR.Flow.after, FR.Flow.at_, List.nil_append, List.cons_append, List.getD_cons_zero, List.getD_cons_succ, FR.det, forall_eq, List.setIfInBounds_toArray, List.set_cons_zero, List.set_cons_succ, List.drop, List.length]
      obtain ⟨hf, hr⟩ := hC1
      have k0 := (hf.cell (p := ⟨g, 0, none⟩) hlg hng).trans hc0; have k1 := (hf.cell (p := ⟨g, 1, none⟩) hlg hng).trans hc1; have k2 := (hf.cell (p := ⟨g, 2, none⟩) hlg hng).trans hc2; have s1 := hf.size
      go_wp2
      exact FR.Flow.post_det ⟨hf, hr⟩ (AppF.refl _) rfl rfl
    apply FR.Flow.det_step
    · go_light
      intro w1 hC1
      simp only [FR.Flow.fill, FR.Flow.after, FR.Flow.at_, List.nil_append, List.cons_append, List.getD_cons_zero, List.getD_cons_succ, FR.det, forall_eq, List.setIfInBounds_toArray, List.set_cons_zero, List.set_cons_succ, List.drop, List.length]
      obtain ⟨hf, hr⟩ := hC1
      have k0 := (hf.cell (p := ⟨g, 0, none⟩) hlg hng).trans hc0; have k1 := (hf.cell (p := ⟨g, 1, none⟩) hlg hng).trans hc1; have k2 := (hf.cell (p := ⟨g, 2, none⟩) hlg hng).trans hc2; have s1 := hf.size
      go_wp2
      exact FR.Flow.post_det ⟨hf, hr⟩ (AppF.refl _) rfl rfl
    intro w1 hC1
    simp only [FR.Flow.fill, FR.Flow.after, FR.Flow.at_, List.nil_append, List.cons_append, List.getD_cons_zero, List.getD_cons_succ, FR.det, forall_eq, List.setIfInBounds_toArray, List.set_cons_zero, List.set_cons_succ, List.drop, List.length]
    rintro _ ⟨g6, rfl, hg6n, hg6s, hg6, hcs6⟩ _ ⟨A9, c9, rfl, hA9⟩
    obtain ⟨hf, hr⟩ := hC1
    have k0 := (hf.cell (p := ⟨g, 0, none⟩) hlg hng).trans hc0; have k1 := (hf.cell (p := ⟨g, 1, none⟩) hlg hng).trans hc1; have k2 := (hf.cell (p := ⟨g, 2, none⟩) hlg hng).trans hc2; have s1 := hf.size
    have hr9 := hA9.row
    obtain ⟨hblk, hfd, hfr⟩ := H.out.app hf hr9
    have k9 := hblk.cell
    have l9 := hblk.lt
    have f9 := hblk.free
    have HE : Hid (FdPost B g f.fin wS (.returned (.tuple #[])) (((w1.setCell ⟨g, 0, none⟩ (.slice A9 (n + 1) c9)).setCell ⟨g, 1, none⟩ (.string ⟨#[]⟩)).setCell ⟨g, 2, none⟩ (.bool false))) :=
      Lib.hid ⟨rfl, ⟨_, _, _, by rw [hfin]; exact hfd.setNow _ _⟩, (hfr.setCell (.inl rfl) _).setCell (.inl rfl) _⟩
    clear hA9 hcs6 hr hblk hfd hfr hr9
    go_wp2
    refine bodyPost_ret (v := .tuple #[]) (by simp [results, Tryd.results13, go_sem]) rfl ?_
    rw [← HW.out]
    exact HE.out
end Go.Proofs.YtopkcanfiefmaaaDoor
