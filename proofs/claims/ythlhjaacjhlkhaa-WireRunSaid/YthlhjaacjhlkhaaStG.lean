/- One end of a stream: contract of take (the bytes of a segment). -/
import Derived.Test.YthlhjaacjhlkhaaStF
namespace Go.Proofs.Ythlhjaacjhlkhaa
open Go.RowKit
set_option maxHeartbeats 400000
set_option linter.unusedVariables false
set_option linter.unusedSimpArgs false
/-- From w on: where the object's rows lie now; nothing else has turned. -/
def At2 (w : World) (g : Nat) (vo vi : Value) (W : World) (vo' vi' : Value) : Prop := Fr (Ob2F g vo vi) w W ∧ ∀ k, Ob2F g vo' vi' k → Ob2F g vo vi k ∨ w.heap.size ≤ k
/-- A slice of bytes that lies apart from the object. -/
def Far (w : World) (g : Nat) (vo vi : Value) (A : Option Addr) (n : Nat) (ds : List Int) : Prop := RB w w.heap.size A n ds ∧ ∀ b o, A = some ⟨b, o, none⟩ → 0 < n → ¬ Ob2F g vo vi b
theorem Far.len {w : World} {g n : Nat} {vo vi : Value} {A : Option Addr} {ds : List Int} (h : Far w g vo vi A n ds) : ds.length = n := h.1.len
theorem Far.byt {w : World} {g n : Nat} {vo vi : Value} {A : Option Addr} {ds : List Int} (h : Far w g vo vi A n ds) : Byt ds := h.1.2
theorem Far.of {w : World} {B g n : Nat} {vo vi : Value} {A : Option Addr} {ds : List Int} (h : RB w B A n ds) (hB : B ≤ w.heap.size) (hX : ∀ k, Ob2F g vo vi k → B ≤ k) : Far w g vo vi A n ds :=
  ⟨h.more hB, fun b o e h0 hk => by
    obtain ⟨b', o', e', hb, _⟩ := h.1.2 h0
    rw [e'] at e
    injection e with e
    injection e with e1 e2
    subst e1
    have := hX _ hk
    omega⟩
theorem Far.at {w W : World} {g n : Nat} {vo vi vo' vi' : Value} {A : Option Addr} {ds : List Int} (h : Far w g vo vi A n ds) (ha : At2 w g vo vi W vo' vi') : Far W g vo' vi' A n ds := by
  refine ⟨⟨⟨h.1.1.1, fun h0 => ?_⟩, h.1.2⟩, fun b o e h0 => ?_⟩
  · obtain ⟨b, o, e, hb, hc⟩ := h.1.1.2 h0
    exact ⟨b, o, e, Nat.lt_of_lt_of_le hb ha.1.size, fun j u hu => (ha.1.cell (p := ⟨b, o + j, none⟩) hb (h.2 b o e h0)).trans (hc j u hu)⟩
  · obtain ⟨b', o', e', hb, hc⟩ := h.1.1.2 h0
    have e2 := h.2 b o e h0
    rw [e'] at e
    injection e with e
    injection e with e3 e4
    subst e3
    intro hk
    rcases ha.2 _ hk with h1 | h1
    · exact e2 h1
    · omega
section
variable {w W W1 W2 : World} {B g : Nat} {t : TypeId} {cs cs' : Value → Value → Array Value} {vo vi vo' vi' v1 v2 v3 v4 : Value} {xs ys xs' ys' : List Int}
theorem At2.grow (hb : Below w.heap.size w W) : At2 w g vo vi W vo vi := ⟨(Fr.of_grow hb).mono (fun _ _ h => h.elim), fun k hk => .inl hk⟩
theorem At2.trans (h1 : At2 w g vo vi W1 v1 v2) (h2 : At2 W1 g v1 v2 W2 v3 v4) : At2 w g vo vi W2 v3 v4 := by
  refine ⟨h1.1.trans h2.1 (fun k hk hk' => (h1.2 k hk').resolve_right (by omega)), fun k hk => ?_⟩
  rcases h2.2 k hk with h3 | h3
  · exact h1.2 k h3
  · exact .inr (Nat.le_trans h1.1.size h3)
theorem At2.more (h1 : At2 w g vo vi W1 v1 v2) (hb : Below W1.heap.size W1 W2) : At2 w g vo vi W2 v1 v2 := h1.trans (At2.grow hb)
theorem At2.go (h : At2 w g vo vi W vo' vi') (ho : Ob2 W B g t cs vo' vi' xs ys) : Ob2Go w B g t vo vi cs xs ys W := ⟨_, _, ho, h.1, h.2⟩
theorem Ob2.sets1 {arr : Array Value} (h : Ob2 w B g t cs vo vi xs ys) (hf : Fr (fun k => k = g) w W) (hb : Blk W g arr t) (ha : arr = cs' vo vi) : Ob2 W B g t cs' vo vi xs ys ∧ At2 w g vo vi W vo vi :=
  ⟨⟨by rw [← ha]; exact hb, h.ro.fr hf (fun k hk e => h.no (e ▸ hk)), h.ri.fr hf (fun k hk e => h.ni (e ▸ hk)), h.bo, h.bi, h.dis, h.no, h.ni, h.low⟩, hf.mono (fun k _ e => .inl e), fun k hk => .inl hk⟩
theorem Ob2.set1 (h : Ob2 w B g t cs vo vi xs ys) (j : Nat) (u : Value) (ha : (cs vo vi).setIfInBounds j u = cs' vo vi) : Ob2 (w.setCell ⟨g, j, none⟩ u) B g t cs' vo vi xs ys ∧ At2 w g vo vi (w.setCell ⟨g, j, none⟩ u) vo vi :=
  h.sets1 ((Fr.refl (fun k => k = g) w).setCell (p := ⟨g, j, none⟩) (fun _ => rfl) u) (h.blk.set j u) ha
theorem Ob2.setI1 {arr : Array Value} {w1 : World} (h : Ob2 w B g t cs vo vi xs ys) (hf : Fr (fun k => vi.ownBlock = some k) w w1) (hr : Row w1 B 5 1 vi' ys'.length (ys'.map (Value.int .u8))) (hbx : Byt ys')
    (ho : ∀ k, vi'.ownBlock = some k → vi.ownBlock = some k ∨ w.heap.size ≤ k) (hf2 : Fr (fun k => k = g) w1 W) (hb : Blk W g arr t) (ha : arr = cs' vo vi') : Ob2 W B g t cs' vo vi' xs ys' ∧ At2 w g vo vi W vo vi' := by
  have hng : vi'.ownBlock ≠ some g := fun e => by
    rcases ho g e with h1 | h1
    · exact h.ni h1
    · have := h.blk.lt; omega
  refine ⟨⟨by rw [← ha]; exact hb, (h.ro.fr hf (fun k hk e => h.dis k hk e)).fr hf2 (fun k hk e => h.no (e ▸ hk)), hr.fr hf2 (fun k hk e => hng (e ▸ hk)), h.bo, hbx, fun k hk hk' => ?_, h.no, hng, h.low⟩, (hf.mono (fun k _ e => .inr (.inr e))).trans (hf2.mono (fun k _ e => .inl e)) (fun _ _ h => h), fun k hk => ?_⟩
  · rcases ho k hk' with h1 | h1
    · exact h.dis k hk h1
    · have := (h.ro.lt k hk).2; omega
  · rcases hk with hk | hk | hk
    · exact .inl (.inl hk)
    · exact .inl (.inr (.inl hk))
    · rcases ho k hk with h1 | h1
      · exact .inl (.inr (.inr h1))
      · exact .inr h1
theorem Ob2.setO1 {arr : Array Value} {w1 : World} (h : Ob2 w B g t cs vo vi xs ys) (hf : Fr (fun k => vo.ownBlock = some k) w w1) (hr : Row w1 B 5 1 vo' xs'.length (xs'.map (Value.int .u8))) (hbx : Byt xs')
    (ho : ∀ k, vo'.ownBlock = some k → vo.ownBlock = some k ∨ w.heap.size ≤ k) (hf2 : Fr (fun k => k = g) w1 W) (hb : Blk W g arr t) (ha : arr = cs' vo' vi) : Ob2 W B g t cs' vo' vi xs' ys ∧ At2 w g vo vi W vo' vi := by
  have hng : vo'.ownBlock ≠ some g := fun e => by
    rcases ho g e with h1 | h1
    · exact h.no h1
    · have := h.blk.lt; omega
  refine ⟨⟨by rw [← ha]; exact hb, hr.fr hf2 (fun k hk e => hng (e ▸ hk)), (h.ri.fr hf (fun k hk e => h.dis k e hk)).fr hf2 (fun k hk e => h.ni (e ▸ hk)), hbx, h.bi, fun k hk hk' => ?_, hng, h.ni, h.low⟩, (hf.mono (fun k _ e => .inr (.inl e))).trans (hf2.mono (fun k _ e => .inl e)) (fun _ _ h => h), fun k hk => ?_⟩
  · rcases ho k hk with h1 | h1
    · exact h.dis k h1 hk'
    · have := (h.ri.lt k hk').2; omega
  · rcases hk with hk | hk | hk
    · exact .inl (.inl hk)
    · rcases ho k hk with h1 | h1
      · exact .inl (.inr (.inl h1))
      · exact .inr h1
    · exact .inl (.inr (.inr hk))
end
theorem flag_bits {f : Int} (h0 : 0 ≤ f) (h1 : f ≤ 15) : bits .and .i64 f 1 = f % 2 ∧ bits .and .i64 f 2 = f / 2 % 2 * 2 ∧ bits .and .i64 f 4 = f / 4 % 2 * 4 ∧ bits .and .i64 f 8 = f / 8 % 2 * 8 := by
  have : f = 0 ∨ f = 1 ∨ f = 2 ∨ f = 3 ∨ f = 4 ∨ f = 5 ∨ f = 6 ∨ f = 7 ∨ f = 8 ∨ f = 9 ∨ f = 10 ∨ f = 11 ∨ f = 12 ∨ f = 13 ∨ f = 14 ∨ f = 15 := by omega
  rcases this with rfl | rfl | rfl | rfl | rfl | rfl | rfl | rfl | rfl | rfl | rfl | rfl | rfl | rfl | rfl | rfl <;> decide +kernel
theorem fin_bit (f : Int) : (f / 4 % 2 * 4 != 0) = decide (f / 4 % 2 = 1) := by
  rcases (by omega : f / 4 % 2 = 0 ∨ f / 4 % 2 = 1) with h | h <;> simp [h]
theorem wrap_u32 (z : Int) : IntKind.u32.wrap z = z % 4294967296 := by simp [IntKind.wrap, IntKind.bits, IntKind.signed]
theorem wrap_rcv (r sp : Int) : IntKind.u32.wrap (r + IntKind.u32.wrap sp) = (r + sp) % 4294967296 := by rw [wrap_u32, wrap_u32]; omega
def spanF (f : Int) (n : Nat) : Int := n + f % 2 + f / 4 % 2
theorem spanI_small {f : Int} {n : Nat} (hn : n ≤ 32) : spanI n f = spanF f n := by
  unfold spanI spanF wrap64
  omega
def tkGood (x : EC) (l : Nat) (q f : Int) (n : Nat) : Prop := f % 2 = 0 ∧ q = x.rcv ∧ x.fin = false ∧ l + n ≤ 64
instance (x : EC) (l : Nat) (q f : Int) (n : Nat) : Decidable (tkGood x l q f n) := by unfold tkGood; infer_instance
def tkX (x : EC) (l : Nat) (q f : Int) (n : Nat) : EC := if spanF f n = 0 then x else if tkGood x l q f n then { x with due := true, rcv := (x.rcv + spanF f n) % 4294967296, fin := decide (f / 4 % 2 = 1) } else { x with due := true }
def tkY (x : EC) (ys : List Int) (q f : Int) (ds : List Int) : List Int := if spanF f ds.length = 0 then ys else if tkGood x ys.length q f ds.length then ys ++ ds else ys
def sgc (q a f wi : Int) (A : Option Addr) (n c : Nat) : Value := .agg #[.int .u32 q, .int .u32 a, .int .i64 f, .int .i64 wi, .slice A n c]
def sgb (q a f wi : Int) (A : Option Addr) (n c : Nat) : Array Value := #[.int .u32 q, .int .u32 a, .int .i64 f, .int .i64 wi, .slice A n c]
section
variable {w : World} {B g : Nat} {x : EC} {vo vi : Value} {xs ys : List Int}
set_option maxHeartbeats 2000000 in
set_option maxRecDepth 100000 in
theorem take97 (h : ESt w B g x vo vi xs ys) (hB : B ≤ w.heap.size) (hl : ys.length ≤ 64) (q a f wi : Int) (A : Option Addr) (n c : Nat) (ds : List Int) (hd : Far w g vo vi A n ds) (hn : n ≤ 32) (hnc : n ≤ c) (hcm : c ≤ 9223372036854775807) (hf0 : 0 ≤ f) (hf1 : f ≤ 15) :
    Calls Try.prog 97 #[.pointer (some ⟨g, 0, none⟩), .agg #[.int .u32 q, .int .u32 a, .int .i64 f, .int .i64 wi, .slice A n c]] w (ERetV w B g vo vi (tkX x ys.length q f n) xs (tkY x ys q f ds)) := by
  obtain ⟨i0, ii, hz0, hz1, hz2⟩ := info_parts pu8info
  have hln := hd.len
  have HS := Lib.hid (fun w' hb => Ob2.same (w' := w') h hb)
  have hb1 : Below w.heap.size w (w.alloc (.cells (sgb q a f wi A n c) 25)) := (Below.refl _ _).alloc (Nat.le_refl _) _
  have HSP := Lib.hid (fun W => span_any q a f wi A n c W (by unfold maxLen; omega))
  rw [spanI_small hn] at HSP
  obtain ⟨b1, b2, b4, b8⟩ := flag_bits hf0 hf1
  have HGB := Lib.hid (fun w' (hb : Below w.heap.size w w') => Ob2.grow h hb)
  obtain ⟨sp, hsp⟩ : ∃ sp, spanF f n = sp := ⟨_, rfl⟩
  rw [hsp] at HSP
  have HX := Lib.hid (fun (hz : sp = 0) => (show tkX x ys.length q f n = x ∧ tkY x ys q f ds = ys from ⟨if_pos (hsp.trans hz), if_pos (by rw [hln]; exact hsp.trans hz)⟩))
  have HX2 := Lib.hid (fun (hz : sp ≠ 0) (hg : ¬ tkGood x ys.length q f n) => (show tkX x ys.length q f n = { x with due := true } ∧ tkY x ys q f ds = ys from ⟨(if_neg (by rw [hsp]; exact hz)).trans (if_neg hg), (if_neg (by rw [hln, hsp]; exact hz)).trans (if_neg (by rw [hln]; exact hg))⟩))
  have HX3 := Lib.hid (fun (hz : sp ≠ 0) (hg : tkGood x ys.length q f n) => (show tkX x ys.length q f n = { x with due := true, rcv := (x.rcv + sp) % 4294967296, fin := decide (f / 4 % 2 = 1) } ∧ tkY x ys q f ds = ys ++ ds from ⟨((if_neg (by rw [hsp]; exact hz)).trans (if_pos hg)).trans (by rw [hsp]), (if_neg (by rw [hln, hsp]; exact hz)).trans (if_pos (by rw [hln]; exact hg))⟩))
  have HL := Lib.hid h
  generalize tkX x ys.length q f n = X at *
  generalize tkY x ys q f ds = Y at *
  by_cases hz : sp = 0
  · have hzz := HX.out hz
    subst hz
    obtain ⟨rfl, rfl⟩ := hzz
    clear HX HX2 HX3 hsp h HL HGB hb1
    go_enter Try.func97, Try.ntmps97
    go_wp2_with fail
    refine (HSP.out _).mono ?_
    rintro e w1 ⟨rfl, hbs⟩
    have HB1 := Lib.hid (((Below.refl w.heap.size w).alloc (Nat.le_refl _) (.cells (sgb q a f wi A n c) 25)).trans (hbs.mono (by simp)))
    clear hbs
    go_wp2
    exact bodyPost_ret (v := .tuple #[]) (by simp [results, Try.results97, go_sem]) rfl ⟨rfl, HS.out _ HB1.out⟩
  · have d1 : (sp == 0) = false := by simpa using hz
    obtain ⟨A0, c0, A', c', rfl, rfl, h1, h2, h3, h4⟩ := h.look
    by_cases hg : tkGood x ys.length q f n
    · have hxx := HX3.out hz hg
      obtain ⟨rfl, rfl⟩ := hxx
      clear HX HX2 HX3 hsp hz
      go_enter Try.func97, Try.ntmps97
      go_wp2_with fail
      refine (HSP.out _).mono ?_
      rintro e w1 ⟨rfl, hbs⟩
      have hbb : Below w.heap.size w w1 := ((Below.refl w.heap.size w).alloc (Nat.le_refl _) (.cells (sgb q a f wi A n c) 25)).trans (hbs.mono (by simp))
      have h0 := HGB.out w1 hbb
      obtain ⟨h1W, a1W⟩ := h0.set1 (cs' := ecells { x with due := true }) 11 (.bool true) (by simp [ecells])
      have a0W := (At2.grow (g := g) (vo := .slice A0 xs.length c0) (vi := .slice A' ys.length c') hbb).trans a1W
      have hc0 := h0.blk.cell 11
      have hf0 := h0.blk.free 11
      have hlt0 := h0.blk.lt
      have hne : ¬ w.heap.size = g := by have := h.blk.lt; omega
      have hkb := (Blk.new w (sgb q a f wi A n c) 25)
      have hkc : ∀ j, (w1.setCell ⟨g, 11, none⟩ (.bool true)).cell? ⟨w.heap.size, j, none⟩ = (sgb q a f wi A n c)[j]? := fun j => (World.cell?_of_block (Below.heap_setCell w1 _ _ w.heap.size hne)).trans ((hbs.cell (p := ⟨w.heap.size, j, none⟩) (by simp)).trans (hkb.cell j))
      have hsz : w.heap.size < (w1.setCell ⟨g, 11, none⟩ (.bool true)).heap.size := by have := hbs.size; simp at this ⊢; omega
      dsimp only [ecells, sgb] at hc0 hkc
      clear hbs hkb h0 a1W hbb
      go_wp2
      clear hc0 hf0 hlt0
      obtain ⟨W, hW⟩ : ∃ W, W = w1.setCell ⟨g, 11, none⟩ (.bool true) := ⟨_, rfl⟩
      rw [← hW] at h1W a0W hkc hsz ⊢
      clear hW
      have hc := h1W.blk.cell
      have hlt := h1W.blk.lt
      dsimp only [ecells] at hc
      have H1 := Lib.hid h1W
      have HA0 := Lib.hid a0W
      have t1 : (f % 2 != 0) = false := by simp; exact hg.1
      have t2 : (q != x.rcv) = false := by simp; exact hg.2.1
      have t4 : decide (64 < (ys.length : Int) + n) = false := by simp; have := hg.2.2.2; omega
      have t3 := hg.2.2.1
      rw [t3] at hc
      clear hg h1W a0W
      go_quiet (fail)
      go_wp2
      obtain ⟨W2, hW2⟩ : ∃ W2, W2 = W.drewN nq := ⟨_, rfl⟩
      rw [← hW2]
      have hbW : Below W.heap.size W W2 := by rw [hW2]; exact st_drewN (Below.refl _ _) _
      have hkc2 : ∀ j, W2.cell? ⟨w.heap.size, j, none⟩ = (sgb q a f wi A n c)[j]? := by rw [hW2]; exact hkc
      have hsz2 : w.heap.size < W2.heap.size := by rw [hW2]; exact hsz
      clear hW2
      have H2 := Lib.hid (Ob2.grow H1.out hbW)
      have HA2 := Lib.hid (HA0.out.more hbW)
      have hc7 : W2.cell? ⟨g, 7, none⟩ = some (.slice A' ys.length c') := H2.out.blk.cell 7
      have hk4 : W2.cell? ⟨w.heap.size, 4, none⟩ = some (.slice A n c) := hkc2 4
      have hlt2 := H2.out.blk.lt
      have HBY := Lib.hid (byt_app H2.out.bi hd.byt)
      have HRD : Hid (Reads W2 W2.heap.size 1 A n (ds.map (Value.int .u8))) := Lib.hid (hd.at HA2.out).1.1
      have hB2 : B ≤ W2.heap.size := Nat.le_trans hB HA2.out.1.size
      have HROW := Lib.hid H2.out.ri
      have HONE := Lib.hid (u8_oneCell ds)
      have hln2 : (ys ++ ds).length = ys.length + n := by rw [List.length_append, hln]
      have HLN2 := Lib.hid hln2
      have hng : (Value.slice A' ys.length c').ownBlock ≠ some g := H2.out.ni
      have HAPP : Hid (∀ w9 A9 c9 W3, Fr (fun k => (Value.slice A' ys.length c').ownBlock = some k) W2 w9 → Row w9 B 5 1 (.slice A9 (ys.length + n) c9) (ys.length + n) (ys.map (Value.int .u8) ++ ds.map (Value.int .u8)) → (∀ k, (Value.slice A9 (ys.length + n) c9).ownBlock = some k → (Value.slice A' ys.length c').ownBlock = some k ∨ W2.heap.size ≤ k) →
          (W3 = w9.setCell ⟨g, 7, none⟩ (.slice A9 (ys.length + n) c9) ∨ W3 = (w9.setCell ⟨g, 7, none⟩ (.slice A9 (ys.length + n) c9)).drew) →
          Ob2 W3 B g 128 (ecells { x with due := true }) (.slice A0 xs.length c0) (.slice A9 (ys.length + n) c9) xs (ys ++ ds) ∧ At2 w g (.slice A0 xs.length c0) (.slice A' ys.length c') W3 (.slice A0 xs.length c0) (.slice A9 (ys.length + n) c9) ∧ (∀ j, W3.cell? ⟨w.heap.size, j, none⟩ = (sgb q a f wi A n c)[j]?) ∧ w.heap.size < W3.heap.size) := Lib.hid (fun w9 A9 c9 W3 hf hr ho hW => by
        have hX := H2.out.setI1 (cs' := ecells { x with due := true }) hf (by rw [HLN2.out, List.map_append]; exact hr) HBY.out ho ((Fr.refl (fun k => k = g) w9).setCell (p := ⟨g, 7, none⟩) (fun _ => rfl) (.slice A9 (ys.length + n) c9)) ((H2.out.blk.fr hf H2.out.ni).set 7 (.slice A9 (ys.length + n) c9)) (by simp [ecells])
        have hv : ¬ (Value.slice A' ys.length c').ownBlock = some w.heap.size := fun e => by have := (h.lt _ (.inr (.inr e))).2; omega
        have hcl : ∀ j, (w9.setCell ⟨g, 7, none⟩ (.slice A9 (ys.length + n) c9)).cell? ⟨w.heap.size, j, none⟩ = (sgb q a f wi A n c)[j]? := fun j => (World.cell?_of_block (Below.heap_setCell w9 _ _ w.heap.size hne)).trans ((hf.cell (p := ⟨w.heap.size, j, none⟩) hsz2 hv).trans (hkc2 j))
        have hs9 : w.heap.size < w9.heap.size := Nat.lt_of_lt_of_le hsz2 hf.size
        rcases hW with rfl | rfl
        · exact ⟨hX.1, HA2.out.trans hX.2, hcl, by simpa using hs9⟩
        · exact ⟨Ob2.grow hX.1 ((Below.refl _ _).drew), (HA2.out.trans hX.2).more ((Below.refl _ _).drew), hcl, by simpa using hs9⟩)
      clear hc hkc hkc2 hbW H1 HA0 h t4
      generalize hl0 : ys.length = l at *
      clear hl0
      go_region_law (refine step_append_row rfl (.tmp 45) (.tmp 47) 23 rfl B 5 i0 (.int .u8 0) 1 1 Try.underlying23 ii hz0 hz1 hz2 rfl (by decide) (.slice A' l c') l (ys.map (Value.int .u8)) (by simp [Act.eval, Act.put]) HROW.out.drew W2.heap.size A n c (ds.map (Value.int .u8)) (by simp [Act.eval, Act.put]) HRD.out.drew HONE.out (by unfold maxLen; omega) (by omega) (by simpa using hB2) ?_; intro A9 c9 w9 hr9 hg9 ho9; have hf9 : Fr (fun k => (Value.slice A' l c').ownBlock = some k) W2 w9 := ((Fr.refl _ W2).drew).grown hg9 (fun k e _ => e); have kb9 := H2.out.blk.fr hf9 hng; have k97 : w9.cell? ⟨g, 7, none⟩ = some (.slice A' l c') := kb9.cell 7; have kl9 := kb9.lt; have kf9 := kb9.free 7)
      all_goals
        first
        | (obtain ⟨o3, a3, k3, s3⟩ := HAPP.out w9 A9 c9 _ hf9 hr9 (fun k hk => by rcases own_cases ho9 hk with h1 | h1; exact .inl h1; simp at h1; exact .inr (by omega)) (.inl rfl)
           generalize w9.setCell ⟨g, 7, none⟩ (.slice A9 (l + n) c9) = W3 at *
           have O3 := Lib.hid o3
           have A3 := Lib.hid a3
           have K3 := Lib.hid k3
           have hc5 : W3.cell? ⟨g, 5, none⟩ = some (.int .u32 x.rcv) := o3.blk.cell 5
           have m0 : W3.cell? ⟨w.heap.size, 0, none⟩ = some (.int .u32 q) := k3 0
           have m1 : W3.cell? ⟨w.heap.size, 1, none⟩ = some (.int .u32 a) := k3 1
           have m2 : W3.cell? ⟨w.heap.size, 2, none⟩ = some (.int .i64 f) := k3 2
           have m3 : W3.cell? ⟨w.heap.size, 3, none⟩ = some (.int .i64 wi) := k3 3
           have m4 : W3.cell? ⟨w.heap.size, 4, none⟩ = some (.slice A n c) := k3 4
           have hl3 := o3.blk.lt
           have HK5 := Lib.hid (fun w5 (hb5 : Below W3.drew.heap.size W3.drew w5) => (show w5.cell? ⟨g, 5, none⟩ = some (.int .u32 x.rcv) ∧ (∀ j, w5.frozen? ⟨g, j, none⟩ = false) ∧ g < w5.heap.size from
             have h5 := Ob2.grow O3.out (((Below.refl W3.heap.size W3).drew).trans hb5)
             ⟨h5.blk.cell 5, h5.blk.free, h5.blk.lt⟩))
           clear o3 a3 k3 hf9 hr9 ho9 hg9 kb9 k97 kl9 kf9 hc7 hk4 hlt2
           go_wp2_with fail
           go_region_with (go_at_call 12; refine (HSP.out _).mono ?_; rintro e w5 ⟨rfl, hb5⟩; obtain ⟨q1, q2, q3⟩ := HK5.out w5 hb5)
           all_goals
             first
             | (have hb5' : Below W3.heap.size W3 w5 := ((Below.refl W3.heap.size W3).drew).trans hb5
                obtain ⟨o5, a5⟩ := (Ob2.grow O3.out hb5').set1 (cs' := ecells { x with due := true, rcv := (x.rcv + sp) % 4294967296 }) 5 (.int .u32 (IntKind.u32.wrap (x.rcv + IntKind.u32.wrap sp))) (by simp [ecells, wrap_rcv])
                have a6 := (A3.out.more hb5').trans a5
                have hk2 : (w5.setCell ⟨g, 5, none⟩ (.int .u32 (IntKind.u32.wrap (x.rcv + IntKind.u32.wrap sp)))).cell? ⟨w.heap.size, 2, none⟩ = some (.int .i64 f) := (World.cell?_of_block (Below.heap_setCell w5 _ _ w.heap.size hne)).trans ((hb5'.cell (p := ⟨w.heap.size, 2, none⟩) s3).trans m2)
                generalize w5.setCell ⟨g, 5, none⟩ (.int .u32 (IntKind.u32.wrap (x.rcv + IntKind.u32.wrap sp))) = W5 at *
                have hc10 : W5.cell? ⟨g, 10, none⟩ = some (.bool x.fin) := o5.blk.cell 10
                have hl5 := o5.blk.lt
                have hf5 := o5.blk.free
                have HFIN : Hid (∀ bb, bb = decide (f / 4 % 2 = 1) → EGo w B g (.slice A0 xs.length c0) (.slice A' l c') { x with due := true, rcv := (x.rcv + sp) % 4294967296, fin := decide (f / 4 % 2 = 1) } xs (ys ++ ds) (W5.setCell ⟨g, 10, none⟩ (.bool bb))) := Lib.hid (fun bb hbb => by
                  subst hbb
                  have h7 := o5.set1 (cs' := ecells { x with due := true, rcv := (x.rcv + sp) % 4294967296, fin := decide (f / 4 % 2 = 1) }) 10 (.bool (decide (f / 4 % 2 = 1))) (by simp [ecells])
                  exact (a6.trans h7.2).go h7.1)
                clear o5 a5 a6 hb5 hb5' q1 q2 q3 hc5 m0 m1 m2 m3 m4 hl3
                go_wp2
                exact bodyPost_ret (v := .tuple #[]) (by simp [results, Try.results97, go_sem]) rfl ⟨rfl, HFIN.out _ (fin_bit f)⟩)
             | (have hb5' : Below W3.heap.size W3 w5 := ((Below.refl W3.heap.size W3).drew).trans hb5
                obtain ⟨o5, a5⟩ := (Ob2.grow O3.out hb5').set1 (cs' := ecells { x with due := true, rcv := (x.rcv + sp) % 4294967296 }) 5 (.int .u32 (IntKind.u32.wrap (x.rcv + IntKind.u32.wrap sp))) (by simp [ecells, wrap_rcv])
                have a6 := (A3.out.more hb5').trans a5
                have hk2 : (w5.setCell ⟨g, 5, none⟩ (.int .u32 (IntKind.u32.wrap (x.rcv + IntKind.u32.wrap sp)))).cell? ⟨w.heap.size, 2, none⟩ = some (.int .i64 f) := (World.cell?_of_block (Below.heap_setCell w5 _ _ w.heap.size hne)).trans ((hb5'.cell (p := ⟨w.heap.size, 2, none⟩) s3).trans m2)
                have o5 := Ob2.grow o5 ((Below.refl _ _).drew)
                have a6 := a6.more ((Below.refl _ _).drew)
                have hk2 : (w5.setCell ⟨g, 5, none⟩ (.int .u32 (IntKind.u32.wrap (x.rcv + IntKind.u32.wrap sp)))).drew.cell? ⟨w.heap.size, 2, none⟩ = some (.int .i64 f) := hk2
                generalize (w5.setCell ⟨g, 5, none⟩ (.int .u32 (IntKind.u32.wrap (x.rcv + IntKind.u32.wrap sp)))).drew = W5 at *
                have hc10 : W5.cell? ⟨g, 10, none⟩ = some (.bool x.fin) := o5.blk.cell 10
                have hl5 := o5.blk.lt
                have hf5 := o5.blk.free
                have HFIN : Hid (∀ bb, bb = decide (f / 4 % 2 = 1) → EGo w B g (.slice A0 xs.length c0) (.slice A' l c') { x with due := true, rcv := (x.rcv + sp) % 4294967296, fin := decide (f / 4 % 2 = 1) } xs (ys ++ ds) (W5.setCell ⟨g, 10, none⟩ (.bool bb))) := Lib.hid (fun bb hbb => by
                  subst hbb
                  have h7 := o5.set1 (cs' := ecells { x with due := true, rcv := (x.rcv + sp) % 4294967296, fin := decide (f / 4 % 2 = 1) }) 10 (.bool (decide (f / 4 % 2 = 1))) (by simp [ecells])
                  exact (a6.trans h7.2).go h7.1)
                clear o5 a5 a6 hb5 hb5' q1 q2 q3 hc5 m0 m1 m2 m3 m4 hl3
                go_wp2
                exact bodyPost_ret (v := .tuple #[]) (by simp [results, Try.results97, go_sem]) rfl ⟨rfl, HFIN.out _ (fin_bit f)⟩))
        | (obtain ⟨o3, a3, k3, s3⟩ := HAPP.out w9 A9 c9 _ hf9 hr9 (fun k hk => by rcases own_cases ho9 hk with h1 | h1; exact .inl h1; simp at h1; exact .inr (by omega)) (.inr rfl)
           generalize (w9.setCell ⟨g, 7, none⟩ (.slice A9 (l + n) c9)).drew = W3 at *
           have O3 := Lib.hid o3
           have A3 := Lib.hid a3
           have K3 := Lib.hid k3
           have hc5 : W3.cell? ⟨g, 5, none⟩ = some (.int .u32 x.rcv) := o3.blk.cell 5
           have m0 : W3.cell? ⟨w.heap.size, 0, none⟩ = some (.int .u32 q) := k3 0
           have m1 : W3.cell? ⟨w.heap.size, 1, none⟩ = some (.int .u32 a) := k3 1
           have m2 : W3.cell? ⟨w.heap.size, 2, none⟩ = some (.int .i64 f) := k3 2
           have m3 : W3.cell? ⟨w.heap.size, 3, none⟩ = some (.int .i64 wi) := k3 3
           have m4 : W3.cell? ⟨w.heap.size, 4, none⟩ = some (.slice A n c) := k3 4
           have hl3 := o3.blk.lt
           have HK5 := Lib.hid (fun w5 (hb5 : Below W3.drew.heap.size W3.drew w5) => (show w5.cell? ⟨g, 5, none⟩ = some (.int .u32 x.rcv) ∧ (∀ j, w5.frozen? ⟨g, j, none⟩ = false) ∧ g < w5.heap.size from
             have h5 := Ob2.grow O3.out (((Below.refl W3.heap.size W3).drew).trans hb5)
             ⟨h5.blk.cell 5, h5.blk.free, h5.blk.lt⟩))
           clear o3 a3 k3 hf9 hr9 ho9 hg9 kb9 k97 kl9 kf9 hc7 hk4 hlt2
           go_wp2_with fail
           go_region_with (go_at_call 12; refine (HSP.out _).mono ?_; rintro e w5 ⟨rfl, hb5⟩; obtain ⟨q1, q2, q3⟩ := HK5.out w5 hb5)
           all_goals
             first
             | (have hb5' : Below W3.heap.size W3 w5 := ((Below.refl W3.heap.size W3).drew).trans hb5
                obtain ⟨o5, a5⟩ := (Ob2.grow O3.out hb5').set1 (cs' := ecells { x with due := true, rcv := (x.rcv + sp) % 4294967296 }) 5 (.int .u32 (IntKind.u32.wrap (x.rcv + IntKind.u32.wrap sp))) (by simp [ecells, wrap_rcv])
                have a6 := (A3.out.more hb5').trans a5
                have hk2 : (w5.setCell ⟨g, 5, none⟩ (.int .u32 (IntKind.u32.wrap (x.rcv + IntKind.u32.wrap sp)))).cell? ⟨w.heap.size, 2, none⟩ = some (.int .i64 f) := (World.cell?_of_block (Below.heap_setCell w5 _ _ w.heap.size hne)).trans ((hb5'.cell (p := ⟨w.heap.size, 2, none⟩) s3).trans m2)
                generalize w5.setCell ⟨g, 5, none⟩ (.int .u32 (IntKind.u32.wrap (x.rcv + IntKind.u32.wrap sp))) = W5 at *
                have hc10 : W5.cell? ⟨g, 10, none⟩ = some (.bool x.fin) := o5.blk.cell 10
                have hl5 := o5.blk.lt
                have hf5 := o5.blk.free
                have HFIN : Hid (∀ bb, bb = decide (f / 4 % 2 = 1) → EGo w B g (.slice A0 xs.length c0) (.slice A' l c') { x with due := true, rcv := (x.rcv + sp) % 4294967296, fin := decide (f / 4 % 2 = 1) } xs (ys ++ ds) (W5.setCell ⟨g, 10, none⟩ (.bool bb))) := Lib.hid (fun bb hbb => by
                  subst hbb
                  have h7 := o5.set1 (cs' := ecells { x with due := true, rcv := (x.rcv + sp) % 4294967296, fin := decide (f / 4 % 2 = 1) }) 10 (.bool (decide (f / 4 % 2 = 1))) (by simp [ecells])
                  exact (a6.trans h7.2).go h7.1)
                clear o5 a5 a6 hb5 hb5' q1 q2 q3 hc5 m0 m1 m2 m3 m4 hl3
                go_wp2
                exact bodyPost_ret (v := .tuple #[]) (by simp [results, Try.results97, go_sem]) rfl ⟨rfl, HFIN.out _ (fin_bit f)⟩)
             | (have hb5' : Below W3.heap.size W3 w5 := ((Below.refl W3.heap.size W3).drew).trans hb5
                obtain ⟨o5, a5⟩ := (Ob2.grow O3.out hb5').set1 (cs' := ecells { x with due := true, rcv := (x.rcv + sp) % 4294967296 }) 5 (.int .u32 (IntKind.u32.wrap (x.rcv + IntKind.u32.wrap sp))) (by simp [ecells, wrap_rcv])
                have a6 := (A3.out.more hb5').trans a5
                have hk2 : (w5.setCell ⟨g, 5, none⟩ (.int .u32 (IntKind.u32.wrap (x.rcv + IntKind.u32.wrap sp)))).cell? ⟨w.heap.size, 2, none⟩ = some (.int .i64 f) := (World.cell?_of_block (Below.heap_setCell w5 _ _ w.heap.size hne)).trans ((hb5'.cell (p := ⟨w.heap.size, 2, none⟩) s3).trans m2)
                have o5 := Ob2.grow o5 ((Below.refl _ _).drew)
                have a6 := a6.more ((Below.refl _ _).drew)
                have hk2 : (w5.setCell ⟨g, 5, none⟩ (.int .u32 (IntKind.u32.wrap (x.rcv + IntKind.u32.wrap sp)))).drew.cell? ⟨w.heap.size, 2, none⟩ = some (.int .i64 f) := hk2
                generalize (w5.setCell ⟨g, 5, none⟩ (.int .u32 (IntKind.u32.wrap (x.rcv + IntKind.u32.wrap sp)))).drew = W5 at *
                have hc10 : W5.cell? ⟨g, 10, none⟩ = some (.bool x.fin) := o5.blk.cell 10
                have hl5 := o5.blk.lt
                have hf5 := o5.blk.free
                have HFIN : Hid (∀ bb, bb = decide (f / 4 % 2 = 1) → EGo w B g (.slice A0 xs.length c0) (.slice A' l c') { x with due := true, rcv := (x.rcv + sp) % 4294967296, fin := decide (f / 4 % 2 = 1) } xs (ys ++ ds) (W5.setCell ⟨g, 10, none⟩ (.bool bb))) := Lib.hid (fun bb hbb => by
                  subst hbb
                  have h7 := o5.set1 (cs' := ecells { x with due := true, rcv := (x.rcv + sp) % 4294967296, fin := decide (f / 4 % 2 = 1) }) 10 (.bool (decide (f / 4 % 2 = 1))) (by simp [ecells])
                  exact (a6.trans h7.2).go h7.1)
                clear o5 a5 a6 hb5 hb5' q1 q2 q3 hc5 m0 m1 m2 m3 m4 hl3
                go_wp2
                exact bodyPost_ret (v := .tuple #[]) (by simp [results, Try.results97, go_sem]) rfl ⟨rfl, HFIN.out _ (fin_bit f)⟩))
    · have hxx := HX2.out hz hg
      obtain ⟨rfl, hyy⟩ := hxx
      have hyz := hyy
      subst hyz
      clear HX HX2 HX3 hsp hz hyy
      go_enter Try.func97, Try.ntmps97
      go_wp2_with fail
      refine (HSP.out _).mono ?_
      rintro e w1 ⟨rfl, hbs⟩
      have hbb : Below w.heap.size w w1 := ((Below.refl w.heap.size w).alloc (Nat.le_refl _) (.cells (sgb q a f wi A n c) 25)).trans (hbs.mono (by simp))
      have h0 := HGB.out w1 hbb
      obtain ⟨h1W, a1W⟩ := h0.set1 (cs' := ecells { x with due := true }) 11 (.bool true) (by simp [ecells])
      have a0W := (At2.grow (g := g) (vo := .slice A0 xs.length c0) (vi := .slice A' Y.length c') hbb).trans a1W
      have hc0 := h0.blk.cell 11
      have hf0 := h0.blk.free 11
      have hlt0 := h0.blk.lt
      have hne : ¬ w.heap.size = g := by have := h.blk.lt; omega
      have hkb := (Blk.new w (sgb q a f wi A n c) 25)
      have hkc : ∀ j, (w1.setCell ⟨g, 11, none⟩ (.bool true)).cell? ⟨w.heap.size, j, none⟩ = (sgb q a f wi A n c)[j]? := fun j => (World.cell?_of_block (Below.heap_setCell w1 _ _ w.heap.size hne)).trans ((hbs.cell (p := ⟨w.heap.size, j, none⟩) (by simp)).trans (hkb.cell j))
      have hsz : w.heap.size < (w1.setCell ⟨g, 11, none⟩ (.bool true)).heap.size := by have := hbs.size; simp at this ⊢; omega
      dsimp only [ecells, sgb] at hc0 hkc
      clear hbs hkb h0 a1W hbb
      go_wp2
      clear hc0 hf0 hlt0
      obtain ⟨W, hW⟩ : ∃ W, W = w1.setCell ⟨g, 11, none⟩ (.bool true) := ⟨_, rfl⟩
      rw [← hW] at h1W a0W hkc hsz ⊢
      clear hW
      have hc := h1W.blk.cell
      have hlt := h1W.blk.lt
      dsimp only [ecells] at hc
      have H1 := Lib.hid h1W
      have HA0 := Lib.hid a0W
      clear h1W a0W h
      by_cases g1 : f % 2 = 0
      rotate_left
      · have t1 : (f % 2 != 0) = true := by simpa using g1
        clear hg g1
        go_quiet (fail)
        go_wp2
        exact bodyPost_ret (v := .tuple #[]) (by simp [results, Try.results97, go_sem]) rfl ⟨rfl, (HA0.out.more (st_drewN (Below.refl _ _) _)).go (Ob2.grow H1.out (st_drewN (Below.refl _ _) _))⟩
      have t1 : (f % 2 != 0) = false := by simpa using g1
      by_cases g2 : q = x.rcv
      rotate_left
      · have t2 : (q != x.rcv) = true := by simpa using g2
        clear hg g1 g2
        go_quiet (fail)
        go_wp2
        exact bodyPost_ret (v := .tuple #[]) (by simp [results, Try.results97, go_sem]) rfl ⟨rfl, (HA0.out.more (st_drewN (Below.refl _ _) _)).go (Ob2.grow H1.out (st_drewN (Below.refl _ _) _))⟩
      have t2 : (q != x.rcv) = false := by simpa using g2
      cases g3 : x.fin with
      | true =>
        rw [g3] at hc
        clear hg g1 g2 g3
        go_quiet (fail)
        go_wp2
        exact bodyPost_ret (v := .tuple #[]) (by simp [results, Try.results97, go_sem]) rfl ⟨rfl, (HA0.out.more (st_drewN (Below.refl _ _) _)).go (Ob2.grow H1.out (st_drewN (Below.refl _ _) _))⟩
      | false =>
        have g4 : ¬ Y.length + n ≤ 64 := fun e => hg ⟨g1, g2, g3, e⟩
        have t4 : decide (64 < (Y.length : Int) + n) = true := by simp; omega
        rw [g3] at hc
        clear hg g1 g2 g3 g4
        go_quiet (fail)
        go_wp2
        exact bodyPost_ret (v := .tuple #[]) (by simp [results, Try.results97, go_sem]) rfl ⟨rfl, (HA0.out.more (st_drewN (Below.refl _ _) _)).go (Ob2.grow H1.out (st_drewN (Below.refl _ _) _))⟩
end
end Go.Proofs.Ythlhjaacjhlkhaa
