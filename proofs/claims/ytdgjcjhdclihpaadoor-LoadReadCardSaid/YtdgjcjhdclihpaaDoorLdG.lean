/- ringlaw4.sameBytes f12 and sameImage f9 at things that say the same. -/
import Derived.Test.YtdgjcjhdclihpaaDoorLdP
import Derived.Deep.RegionLaw
namespace Go.Proofs.YtdgjcjhdclihpaaDoor
open Go.RowKit
set_option maxHeartbeats 400000
set_option linter.unusedVariables false
set_option linter.unusedSimpArgs false
def SameB (w : World) (e : Ending) (w' : World) : Prop := e = .returned (.bool true) ∧ Below w.heap.size w w'
theorem sameBytes_any (A A' : Option Addr) (n c n' c' : Nat) (xs ys : List Int) (w : World) (B B' : Nat) (h : RB w B A n xs) (h' : RB w B' A' n' ys) :
    Calls Tryd.prog 12 #[.slice A n c, .slice A' n' c'] w fun e w' => e = .returned (.bool (decide (xs = ys))) ∧ w' = w := by
  have e1 := h.conv (P := Tryd.prog) c 26 9 5 Tryd.underlying26 Tryd.underlying5 Tryd.underlying9
  have e2 := h'.conv (P := Tryd.prog) c' 26 9 5 Tryd.underlying26 Tryd.underlying5 Tryd.underlying9
  go_enter Tryd.func12, Tryd.ntmps12
  go_wp2
  go_ret
  exact ⟨by rw [strOfNums_beq h.2 h'.2]; rfl, rfl⟩
theorem sameBytes_same (A A' : Option Addr) (n c n' c' : Nat) (xs : List Int) (w : World) (B B' : Nat) (h : RB w B A n xs) (h' : RB w B' A' n' xs) :
    Calls Tryd.prog 12 #[.slice A n c, .slice A' n' c'] w (SameB w) :=
  (sameBytes_any A A' n c n' c' xs xs w B B' h h').mono (by rintro e w' ⟨rfl, rfl⟩; exact ⟨by simp, Below.refl _ _⟩)
theorem keys_at {gs gs' : List Pg} (h : gs.map Pg.key = gs'.map Pg.key) {k : Nat} (hk : k < gs.length) : (gs'.getD k Pg.zero).p = (gs.getD k Pg.zero).p ∧ (gs'.getD k Pg.zero).r = (gs.getD k Pg.zero).r ∧ (gs'.getD k Pg.zero).xs = (gs.getD k Pg.zero).xs := by
  have hl : gs.length = gs'.length := by have := congrArg List.length h; simpa using this
  have h1 : (gs.map Pg.key)[k]? = (gs'.map Pg.key)[k]? := by rw [h]
  rw [List.getElem?_map, List.getElem?_map, List.getElem?_eq_getElem hk, List.getElem?_eq_getElem (by omega : k < gs'.length)] at h1
  simp only [Option.map_some, Option.some.injEq, Pg.key, Prod.mk.injEq] at h1
  simp [List.getD, List.getElem?_eq_getElem hk, List.getElem?_eq_getElem (by omega : k < gs'.length), h1.1, h1.2.1, h1.2.2]
set_option maxHeartbeats 4000000 in
set_option maxRecDepth 100000 in
theorem sameImage_same (e : Int) (A A' : Option Addr) (n c n' c' B B' : Nat) (gs gs' : List Pg) (w : World) (h : RP w B A n gs) (h' : RP w B' A' n' gs') (hB : B ≤ w.heap.size) (hB' : B' ≤ w.heap.size)
    (hk : gs.map Pg.key = gs'.map Pg.key) (hn9 : n ≤ 9223372036854775807) : Calls Tryd.prog 9 #[.agg #[.int .u32 e, .slice A n c], .agg #[.int .u32 e, .slice A' n' c']] w (SameB w) := by
  have hn := h.2.1
  have hn' := h'.2.1
  obtain rfl : n = n' := by have := congrArg List.length hk; simp at this; omega
  have hW1 := (Blk.new w #[.int .u32 e, .slice A n c] 25).alloc (.cells #[.int .u32 e, .slice A' n c'] 25)
  have hW2 := Blk.new (w.alloc (.cells #[.int .u32 e, .slice A n c] 25)) #[.int .u32 e, .slice A' n c'] 25
  have hB0 : Below w.heap.size w ((w.alloc (.cells #[.int .u32 e, .slice A n c] 25)).alloc (.cells #[.int .u32 e, .slice A' n c'] 25)) := ((Below.refl _ _).alloc (Nat.le_refl _) _).alloc (by simp) _
  simp only [World.size_alloc] at hW2
  obtain ⟨W2, hWW⟩ : ∃ W2, W2 = (w.alloc (.cells #[.int .u32 e, .slice A n c] 25)).alloc (.cells #[.int .u32 e, .slice A' n c'] 25) := ⟨_, rfl⟩
  have hsz2 : W2.heap.size = w.heap.size + 1 + 1 := by rw [hWW]; simp
  rw [← hWW] at hW1 hW2 hB0
  have hsz3 : w.heap.size + 1 + 1 ≤ W2.heap.size := by omega
  clear hsz2
  replace hn := Lib.hid hn
  replace hn' := Lib.hid hn'
  replace hWW := Lib.hid hWW
  have HK := Lib.hid hk
  have hc1 := hW1.cell
  have hc2 := hW2.cell
  have hw0 := hB0.size
  have hee : (e != e) = false := by simp
  have hnn : ((n : Int) != n) = false := by simp
  have HS := Lib.hid (fun A c A' c' (xs : List Int) (w : World) (B B' n n' : Nat) (h1 : RB w B A n xs) (h2 : RB w B' A' n' xs) => sameBytes_same A A' n c n' c' xs w B B' h1 h2)
  unfold SameB at HS
  clear hk
  go_enter Tryd.func9, Tryd.ntmps9
  go_wp2_with fail
  rw [← hWW.out]
  go_loopw [25] (fun i wr => ∃ k : Nat, k ≤ n ∧ i = .int .i64 k ∧ Below (w.heap.size + 1 + 1) W2 wr) (fun i _ => n - (intOf i).toNat)
  case atStart => exact ⟨0, by omega, rfl, Below.refl _ _⟩
  case round =>
    clear hc1 hc2
    obtain ⟨k, hk, rfl, hbw⟩ := hrel
    have hx1 := hW1.fr (Fr.of_below hbw) (fun h => by omega)
    have hx2 := hW2.fr (Fr.of_below hbw) (fun h => by omega)
    have hc1 := hx1.cell
    have hc2 := hx2.cell
    have hl1 := hx1.lt
    have hl2 := hx2.lt
    have hbw1 : Below w.heap.size w wr := hB0.trans (hbw.mono (by omega))
    by_cases hlt : k < n
    rotate_left
    · go_wp2
      go_ret
      exact ⟨rfl, hbw1⟩
    · have hr := h.below' hbw1 hB
      have hr' := h'.below' hbw1 hB'
      obtain ⟨b, o, rfl, hb, y0, y1, y2⟩ := hr.at_ hlt
      obtain ⟨b', o', rfl, hb', z0, z1, z2⟩ := hr'.at_ hlt
      have hf := (hr.fine_ hlt).1
      have hf' := (hr'.fine_ hlt).1
      obtain ⟨e1, e2, e3⟩ := keys_at HK.out (show k < gs.length by have := hn.out; omega)
      rw [e1] at z0
      rw [e2] at z1
      rw [e3] at hf'
      have HRB := Lib.hid (hf.more (by have := hbw1.size; omega : B ≤ wr.heap.size))
      have HRB' := Lib.hid (hf'.more (by have := hbw1.size; omega : B' ≤ wr.heap.size))
      clear e1 e2 e3 hf hf' hr hr'
      generalize gs.getD k Pg.zero = g at *
      generalize gs'.getD k Pg.zero = g' at *
      obtain ⟨gp, gr, gA, gn, gcp, gx⟩ := g
      obtain ⟨gp', gr', gA', gn', gcp', gx'⟩ := g'
      dsimp only at y0 y1 y2 z0 z1 z2 HRB HRB'
      have q1 : (gp != gp) = false := by simp
      have q2 : (gr != gr) = false := by simp
      have hkn : (k : Int) < n := by omega
      have hk0 : (0 : Int) ≤ k := by omega
      have hbl : b < wr.heap.size := by have := hbw1.size; omega
      have hbl' : b' < wr.heap.size := by have := hbw1.size; omega
      go_wp2_with fail
      have HSW := Lib.hid (fun W (hb : Below wr.heap.size wr W) => HS.out gA gcp gA' gcp' gx W wr.heap.size wr.heap.size gn gn' (HRB.out.below' hb (Nat.le_refl _)) (HRB'.out.below' hb (Nat.le_refl _)))
      have HBW := Lib.hid hbw
      clear hbw
      go_region
      all_goals
        go_wp2_with fail
        refine (HSW.out _ ((((Below.refl wr.heap.size wr).alloc (Nat.le_refl _) _).alloc (by simp) _).drew)).mono ?_
        rintro e' w9 ⟨rfl, hb9⟩
        have hbf := Lib.hid (HBW.out.trans (((((((Below.refl wr.heap.size wr).alloc (Nat.le_refl _) _).alloc (by simp) _).drew).trans (hb9.mono (by simp; omega))).mono (by omega))))
        clear hb9
        go_wp2
        go_roundw
        case rel => exact ⟨k + 1, by omega, by go_num, hbf.out⟩
        case measure => simp [intOf]; omega
end Go.Proofs.YtdgjcjhdclihpaaDoor
