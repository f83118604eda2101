/- An image under way in its block; ringref4.LoadTrim f11. -/
import Derived.Test.YtdgjcjhdclihpaaDoorLdB
import Derived.Lib.ConvBytes
namespace Go.Proofs.YtdgjcjhdclihpaaDoor
open Go.RowKit
set_option maxHeartbeats 400000
set_option linter.unusedVariables false
set_option linter.unusedSimpArgs false
theorem reads_cells (w : World) (t : TypeId) (cs : List Value) {m size : Nat} (hl : cs.length = m * size) : Reads (w.alloc (.cells cs.toArray t)) (w.heap.size + 1) size (some ⟨w.heap.size, 0, none⟩) m cs := by
  refine ⟨hl, fun _ => ⟨w.heap.size, 0, rfl, by omega, fun j u hu => ?_⟩⟩
  rw [(Blk.new w cs.toArray t).cell, Nat.zero_add]
  simpa using hu
def FrG (B g : Nat) (w w' : World) : Prop := Fr (fun k => k = g ∨ B ≤ k) w w'
theorem FrG.refl (B g : Nat) (w : World) : FrG B g w w := Fr.refl _ w
theorem FrG.trans {B g : Nat} {w w' w'' : World} (h : FrG B g w w') (h' : FrG B g w' w'') : FrG B g w w'' := Fr.trans' h h'
theorem FrG.drew {B g : Nat} {w w' : World} (h : FrG B g w w') : FrG B g w w'.drew := Fr.drew h
theorem FrG.of_below {B g : Nat} {w w' : World} (h : Below w.heap.size w w') (hB : B ≤ w.heap.size) : FrG B g w w' := (Fr.of_below h).mono fun k hk hs => by omega
theorem FrG.setCell {B g : Nat} {w w' : World} (h : FrG B g w w') {p : Addr} (hp : p.block = g ∨ B ≤ p.block) (u : Value) : FrG B g w (w'.setCell p u) := Fr.setCell h (p := p) (fun _ => hp) u
structure ImSt (w : World) (B g : Nat) (e : Int) (A : Option Addr) (n c : Nat) (gs : List Pg) : Prop where
  blk : Blk w g #[.int .u32 e, .slice A n c] 25
  pgs : PgS w B (.slice A n c) gs
  len : gs.length = n
  lt : g < B
  base : B ≤ w.heap.size
theorem ImSt.grow {w w' : World} {B g n c : Nat} {e : Int} {A : Option Addr} {gs : List Pg} (h : ImSt w B g e A n c gs) (hb : Below w.heap.size w w') : ImSt w' B g e A n c gs :=
  ⟨h.blk.fr (Fr.of_grow hb) (fun h => h), h.pgs.grow hb, h.len, h.lt, Nat.le_trans h.base hb.size⟩
/-- Behind an append of a page and the store of the slice. -/
theorem ImSt.next {w w9 : World} {B g n c c9 : Nat} {e : Int} {A A9 : Option Addr} {gs : List Pg} {x : Pg} (h : ImSt w B g e A n c gs) (hg : w.grownBy w9 (Value.slice A n c).ownBlock) (hr : Row w9 B 41 3 (.slice A9 (n + 1) c9) (n + 1) (gs.flatMap Pg.cells ++ x.cells)) (hx : x.own w B) :
    Blk w9 g #[.int .u32 e, .slice A n c] 25 ∧ ImSt (w9.setCell ⟨g, 1, none⟩ (.slice A9 (n + 1) c9)) B g e A9 (n + 1) c9 (gs ++ [x]) ∧ FrG B g w (w9.setCell ⟨g, 1, none⟩ (.slice A9 (n + 1) c9)) := by
  have hf : Fr (fun k => (Value.slice A n c).ownBlock = some k) w w9 := Fr.of_grown hg
  have hrow := h.pgs.row
  have hblk : Blk w9 g #[.int .u32 e, .slice A n c] 25 := h.blk.fr hf (fun e => bp_row_blk hrow h.blk (by decide) e)
  have hlen := h.len
  have hs := hf.size
  have hbase := h.base
  have hp : PgS w9 B (.slice A9 (n + 1) c9) (gs ++ [x]) := h.pgs.app (by rw [hlen]; exact hr) hf hx
  refine ⟨hblk, ⟨by simpa using hblk.set 1 (.slice A9 (n + 1) c9), hp.set hblk (by decide) (by decide) _ _, by simp [hlen], h.lt, by simp; omega⟩, ?_⟩
  have hf2 : FrG B g w w9 := hf.mono fun k _ hk => .inr (hrow.lt k hk).1
  exact hf2.setCell (p := ⟨g, 1, none⟩) (.inl rfl) _
/-- Slices of pages fit. -/
structure Big (n : Nat) (gs : List Pg) : Prop where
  fit : n * 40 ≤ 140737488355328
  data : ∀ g ∈ gs, g.n ≤ 140737488355328 ∧ g.n ≤ g.c ∧ g.c ≤ 9223372036854775807
theorem keys_snoc {gs hs : List Pg} {j : Nat} {x : Pg} (h : hs.map Pg.key = (gs.take j).map Pg.keyT) (hj : j < gs.length) (hx : x.key = (gs.getD j Pg.zero).keyT) : (hs ++ [x]).map Pg.key = (gs.take (j + 1)).map Pg.keyT := by
  have e1 : gs.getD j Pg.zero = gs[j] := by simp [List.getD, List.getElem?_eq_getElem hj]
  rw [List.take_succ_eq_append_getElem hj, List.map_append, List.map_append, h, ← e1]
  simp [hx]
theorem trim_fit {xs : List Int} {n : Nat} (h : xs.length = n) : (trim xs).length ≤ n := by rw [trim_len]; have := tn_le xs xs.length; omega
set_option maxHeartbeats 4000000 in
set_option maxRecDepth 100000 in
theorem loadTrim_any (e : Int) (A : Option Addr) (n c : Nat) (gs : List Pg) (w : World) (B : Nat) (h : RP w B A n gs) (hB : B ≤ w.heap.size) (hbig : Big n gs) :
    Calls Tryd.prog 11 #[.agg #[.int .u32 e, .slice A n c]] w (ImPost e (gs.map Pg.keyT) w) := by
  obtain ⟨i1, hi1, hz3, hz4, hz5⟩ := info_parts infoG
  have hsb := fun W s => Lib.run_convert_string_bytes (P := Tryd.prog) W 9 26 5 s Tryd.underlying9 Tryd.underlying26 Tryd.underlying5
  obtain ⟨W, hW⟩ : ∃ W, W = ((w.alloc (.cells #[.int .u32 e, .slice A n c] 25)).alloc (.cells #[.int .u32 0, .slice none 0 0] 25)).alloc (.cells #[.int .u32 e, .slice none 0 0] 25) := ⟨_, rfl⟩
  have hx0 : Blk W w.heap.size #[.int .u32 e, .slice A n c] 25 := by rw [hW]; exact ((Blk.new _ _ _).alloc _).alloc _
  have hx1 : Blk W (w.heap.size + 1) #[.int .u32 0, .slice none 0 0] 25 := by rw [hW]; have := (Blk.new (w.alloc (.cells #[.int .u32 e, .slice A n c] 25)) #[.int .u32 0, .slice none 0 0] 25).alloc (.cells #[.int .u32 e, .slice none 0 0] 25); simpa using this
  have hx2 : Blk W (w.heap.size + 2) #[.int .u32 e, .slice none 0 0] 25 := by rw [hW]; have := Blk.new ((w.alloc (.cells #[.int .u32 e, .slice A n c] 25)).alloc (.cells #[.int .u32 0, .slice none 0 0] 25)) #[.int .u32 e, .slice none 0 0] 25; simpa using this
  have hb0 : Below w.heap.size w W := by rw [hW]; exact (((Below.refl _ _).alloc (Nat.le_refl _) _).alloc (by simp) _).alloc (by simp; omega) _
  have hsW : W.heap.size = w.heap.size + 3 := by rw [hW]; simp
  have HIN := Lib.hid (h.below' hb0 hB)
  have HBIG := Lib.hid hbig
  have hlen := h.2.1
  obtain ⟨g0, hg0⟩ : ∃ g, w.heap.size = g := ⟨_, rfl⟩
  rw [hg0] at hx0 hx1 hx2 hb0 hsW hB
  obtain ⟨gr, hgr⟩ : ∃ gr, g0 + 1 = gr := ⟨_, rfl⟩
  obtain ⟨g, hg⟩ : ∃ g, gr + 1 = g := ⟨_, rfl⟩
  rw [hgr] at hx1
  rw [show g0 + 2 = g by omega] at hx2
  have hst0 : ImSt W (g + 1) g e none 0 0 [] := ⟨hx2, PgS.nil _ _, rfl, by omega, by omega⟩
  have HST0 := Lib.hid hst0
  have HX0 := Lib.hid hx0
  have HX1 := Lib.hid hx1
  have HB0 := Lib.hid hb0
  have HW := Lib.hid hW
  have HG0 := Lib.hid hg0
  have hl0 : g0 < gr := by omega
  have hlr : gr < g := by omega
  have hsW' : g < W.heap.size := by omega
  have HG := Lib.hid hg
  clear hW hb0 hx0 hx1 hx2 h hst0 hsW hg hbig
  have hfit := HBIG.out.fit
  go_enter Tryd.func11, Tryd.ntmps11
  go_wp2_with fail
  rw [HG.out, ← HW.out]
  clear HW hg0 hgr
  go_loopw [13] (fun i wr => ∃ (j : Nat) (A1 : Option Addr) (c1 : Nat) (hs : List Pg), j ≤ n ∧ i = .int .i64 j ∧ Hid (hs.map Pg.key = (gs.take j).map Pg.keyT) ∧ Hid (ImSt wr (g + 1) g e A1 j c1 hs) ∧ Hid (FrG (g + 1) g W wr)) (fun i _ => n - (intOf i).toNat)
  case atStart => exact ⟨0, none, 0, [], Nat.zero_le _, rfl, Lib.hid rfl, HST0, Lib.hid (FrG.refl _ _ _)⟩
  case round =>
    obtain ⟨j, A1, c1, hs, hj, rfl, hks, hst, hfr⟩ := hrel
    have hbg : Below g W wr := hfr.out.below (by omega) (by omega)
    have hsw2 := hbg.size
    have HBG := Lib.hid hbg
    clear hbg
    by_cases hjn : j < n
    rotate_left
    · obtain rfl : j = n := by omega
      have HK := Lib.hid (hks.out.trans (by rw [List.take_of_length_le (by omega)]))
      have hcb := hst.out.blk.cell
      have hlb := hst.out.blk.lt
      have hr9 := HX1.out.fr hfr.out (fun h => by rcases h with h | h <;> omega)
      have hrcc := hr9.cell
      have hrcf := hr9.free
      have hrcl := hr9.lt
      have HP := Lib.hid (fun (v0 v1 : Value) => (((hst.out.pgs.set hr9 (by decide) (by decide) 0 v0).set (hr9.set 0 v0) (by decide) (by decide) 1 v1).base (show g0 ≤ g + 1 by omega)))
      have HWB := Lib.hid (fun (v0 v1 : Value) => ((HB0.out.trans (HBG.out.mono (by omega))).setCell (p := ⟨gr, 0, none⟩) (by show g0 ≤ gr; omega) v0).setCell (p := ⟨gr, 1, none⟩) (by show g0 ≤ gr; omega) v1)
      have HL := Lib.hid hst.out.len
      clear hr9 hks hst hlen
      go_wp2
      refine bodyPost_ret (v := .agg #[.int .u32 e, .slice A1 j c1]) (by simp [results, Tryd.results11, go_sem, hrcc, hrcl]) rfl ?_
      exact ⟨A1, _, c1, hs, rfl, HL.out, HK.out, by rw [HG0.out]; exact HP.out _ _, by rw [HG0.out]; exact HWB.out _ _⟩
    have hfine := (HIN.out.fine_ hjn)
    have hmem : gs.getD j .zero ∈ gs := by
      have : gs.getD j .zero = gs[j]'(by omega) := by simp [List.getD, List.getElem?_eq_getElem (show j < gs.length by omega)]
      rw [this]; exact List.getElem_mem _
    obtain ⟨bb, o, rfl, hbb, y0, y1, y2⟩ := HIN.out.at_ hjn
    have x0 := (HBG.out.cell (p := ⟨bb, o + j * 3, none⟩) (show bb < g by omega)).trans y0
    have x1 := (HBG.out.cell (p := ⟨bb, o + j * 3 + 1, none⟩) (show bb < g by omega)).trans y1
    have x2 := (HBG.out.cell (p := ⟨bb, o + j * 3 + 2, none⟩) (show bb < g by omega)).trans y2
    have HSN := Lib.hid (fun (x : Pg) (hx : x.key = (gs.getD j Pg.zero).keyT) => keys_snoc hks.out (by omega) hx)
    clear y0 y1 y2 hks hmem
    unfold Pg.fine at hfine
    unfold Pg.keyT at HSN
    generalize gs.getD j .zero = x at *
    obtain ⟨p, r, A', n', c', xs⟩ := x
    dsimp only at x0 x1 x2 hfine HSN
    obtain ⟨hrb, hp, hr, hn'⟩ := hfine
    have hrb5 : RB (wr.alloc (.cells #[.int .i64 p, .int .i64 r, .slice A' n' c'] 41)) B A' n' xs := (hrb.below' HBG.out (by omega)).alloc (by omega) _
    have hcv := hrb5.conv (P := Tryd.prog) c' 26 9 5 Tryd.underlying26 Tryd.underlying5 Tryd.underlying9
    have hxl := hrb.len
    have HTR := Lib.hid (fun W => trimRight_any xs hrb.2 W (by omega))
    have HBT := Lib.hid (trim_byt hrb.2)
    have htf := trim_fit hxl
    obtain ⟨T, hT⟩ : ∃ T, T = trim xs := ⟨_, rfl⟩
    rw [← hT] at HTR HBT HSN htf
    have hB5 : Below wr.heap.size wr (wr.alloc (.cells #[.int .i64 p, .int .i64 r, .slice A' n' c'] 41)) := (Below.refl _ _).alloc (Nat.le_refl _) _
    have HB5 := Lib.hid hB5
    have hst5 := hst.out.grow hB5
    have hcb := hst5.blk.cell
    have hlb := hst5.blk.lt
    have HS5 := Lib.hid hst5
    have hkn : (j : Int) < n := by omega
    have hk0 : (0 : Int) ≤ j := by omega
    clear hst hT hB5 hst5 hrb hrb5
    go_wp2_with fail
    refine (HTR.out _).mono ?_
    rintro e' w6 ⟨rfl, hw6⟩
    have HS6 : Hid (ImSt w6 (g + 1) g e A1 j c1 hs) := Lib.hid (by rw [hw6]; exact HS5.out)
    have hb6 : Blk w6 wr.heap.size #[.int .i64 p, .int .i64 r, .slice A' n' c'] 41 := by rw [hw6]; exact Blk.new _ _ _
    have HB6 : Hid (Below wr.heap.size wr w6) := Lib.hid (by rw [hw6]; exact HB5.out)
    have HW6 := Lib.hid hw6
    obtain ⟨g5, hg5⟩ : ∃ g, wr.heap.size = g := ⟨_, rfl⟩
    rw [hg5] at hb6
    have hpc := hb6.cell
    have hpl := hb6.lt
    have hcb6 := HS6.out.blk.cell
    have hlb6 := HS6.out.blk.lt
    have hfb6 := HS6.out.blk.free
    clear hw6 hcb hlb hb6 hcv
    have hown : Pg.own (Lib.bytesWorld w6 5 (strOfNums T)) (g + 1) ⟨p, r, some ⟨w6.heap.size, 0, none⟩, (strOfNums T).size, grownCap w6 (strOfNums T).size 0 5, T⟩ := by
      have h1 := OwnBs.of_bytes w6 T HBT.out (grownCap w6 (strOfNums T).size 0 5)
      rw [← strOfNums_size T] at h1
      exact ⟨h1.base HS6.out.base, hp, hr, by show (strOfNums T).size ≤ _; rw [strOfNums_size]; omega⟩
    have hb8 : Below w6.heap.size w6 ((Lib.bytesWorld w6 5 (strOfNums T)).alloc (.cells #[.int .i64 p, .int .i64 r, .slice (some ⟨w6.heap.size, 0, none⟩) (strOfNums T).size (grownCap w6 (strOfNums T).size 0 5)] 41)) :=
      (below_bytes w6 5 (strOfNums T)).alloc (by rw [Lib.bytesWorld_size]; omega) _
    have hown8 := hown.fr ((Fr.refl Nil _).alloc (.cells #[.int .i64 p, .int .i64 r, .slice (some ⟨w6.heap.size, 0, none⟩) (strOfNums T).size (grownCap w6 (strOfNums T).size 0 5)] 41)) (fun _ _ h => h)
    have HRD := Lib.hid (reads_cells (Lib.bytesWorld w6 5 (strOfNums T)) 41 (Pg.cells ⟨p, r, some ⟨w6.heap.size, 0, none⟩, (strOfNums T).size, grownCap w6 (strOfNums T).size 0 5, T⟩) (m := 1) (size := 3) rfl)
    have HS8 := Lib.hid (HS6.out.grow hb8)
    have HO8 := Lib.hid hown8
    have HB8 := Lib.hid (HB6.out.trans (hb8.mono HB6.out.size))
    have hbs8 := HS8.out.base
    have hrow8 := HS8.out.pgs.row
    rw [HS8.out.len] at hrow8
    have HR8 := Lib.hid hrow8
    have HK := Lib.hid (HSN.out ⟨p, r, some ⟨w6.heap.size, 0, none⟩, (strOfNums T).size, grownCap w6 (strOfNums T).size 0 5, T⟩ rfl)
    clear hown hb8 hown8 hrow8
    go_wp2_with (at_builtin; refine wpList_append_row _ rfl (.tmp 22) (.tmp 30) 23 rfl (g + 1) 41 i1 (.agg #[.int .i64 0, .int .i64 0, .slice none 0 0]) 3 40 Tryd.underlying23 hi1 hz3 hz4 hz5 rfl (by decide) (.slice A1 j c1) j (hs.flatMap Pg.cells) rfl HR8.out _ (some ⟨(Lib.bytesWorld w6 5 (strOfNums T)).heap.size, 0, none⟩) 1 1 (Pg.cells ⟨p, r, some ⟨w6.heap.size, 0, none⟩, (strOfNums T).size, grownCap w6 (strOfNums T).size 0 5, T⟩) rfl HRD.out (one_pg _) (by unfold maxLen; omega) (by omega) hbs8 ?_)
    intro A9 c9 w9 hr9 hg9 ho9
    obtain ⟨hblk, hst9, hfr9⟩ := HS8.out.next hg9 hr9 HO8.out
    have k9 := hblk.cell
    have l9 := hblk.lt
    have f9 := hblk.free
    have HS9 := Lib.hid hst9
    have HF9 := Lib.hid (hfr.out.trans ((FrG.of_below HB8.out (by omega)).trans hfr9))
    clear hr9 hg9 ho9 hblk hst9 hfr9 hcb6 hlb6 hfb6 hpc hpl
    go_wp2
    go_roundw
    case rel => exact ⟨j + 1, _, _, _, by omega, by go_num, HK, HS9, HF9⟩
    case measure => simp [intOf]; omega
end Go.Proofs.YtdgjcjhdclihpaaDoor
