/- ringlaw4.sameImage at images that say the same. -/
import Derived.Test.YtmndmdipjfblhaaBlG
namespace Go.Proofs.Ytmndmdipjfblhaa
open Go.RowKit
set_option maxHeartbeats 400000
set_option linter.unusedVariables false
set_option linter.unusedSimpArgs false
theorem pgs_at {w : World} {B : Nat} {A : Option Addr} {n c k : Nat} {gs : List Pg} (h : PgS w B (.slice A n c) gs) (hn : n = gs.length) (hk : k < n) :
    ∃ b o g, A = some ⟨b, o, none⟩ ∧ b < w.heap.size ∧ gs[k]? = some g ∧ g.own w B ∧ w.cell? ⟨b, o + k * 3, none⟩ = some (.int .i64 g.p) ∧ w.cell? ⟨b, o + k * 3 + 1, none⟩ = some (.int .i64 g.r) ∧ w.cell? ⟨b, o + k * 3 + 2, none⟩ = some (.slice g.A g.n g.c) := by
  have hr := h.row
  rw [← hn] at hr
  obtain ⟨b, o, e, hb, hm, hc⟩ := RS.at_ (cl := Pg.cells) (s := 3) (fun _ => rfl) Pg.zero (⟨hr.reads, hn.symm⟩ : RS Pg.cells 3 w w.heap.size A n gs) hk
  exact ⟨b, o, _, e, hb, by simp [List.getD, List.getElem?_eq_getElem (by omega : k < gs.length)], h.own _ hm, hc 0 _ rfl, hc 1 _ rfl, hc 2 _ rfl⟩
set_option maxHeartbeats 2000000 in
set_option maxRecDepth 100000 in
theorem sameImage_same (e : Int) (A A' : Option Addr) (n c n' c' B B' m en : Nat) (bs : List Int) (gs gs' : List Pg) (w : World) (h : PgS w B (.slice A n c) gs) (h' : PgS w B' (.slice A' n' c') gs') (hn : n = gs.length) (hn' : n' = gs'.length)
    (hp : PgsOk bs en m gs) (hp' : PgsOk bs en m gs') (hm : m ≤ 4000) : Calls Try.prog 14 #[.agg #[.int .u32 e, .slice A n c], .agg #[.int .u32 e, .slice A' n' c']] w (SameB w) := by
  obtain rfl : n = n' := by rw [hn, hn', hp.1, hp'.1]
  have hnm : n ≤ 4000 := by rw [hn, hp.1]; exact hm
  have hW1 := (Blk.new w #[.int .u32 e, .slice A n c] 41).alloc (.cells #[.int .u32 e, .slice A' n c'] 41)
  have hW2 := Blk.new (w.alloc (.cells #[.int .u32 e, .slice A n c] 41)) #[.int .u32 e, .slice A' n c'] 41
  have hB0 : Below w.heap.size w ((w.alloc (.cells #[.int .u32 e, .slice A n c] 41)).alloc (.cells #[.int .u32 e, .slice A' n c'] 41)) := ((Below.refl _ _).alloc (Nat.le_refl _) _).alloc (by simp) _
  simp only [World.size_alloc] at hW2
  obtain ⟨W2, hWW⟩ : ∃ W2, W2 = (w.alloc (.cells #[.int .u32 e, .slice A n c] 41)).alloc (.cells #[.int .u32 e, .slice A' n c'] 41) := ⟨_, rfl⟩
  have hsz2 : W2.heap.size = w.heap.size + 1 + 1 := by rw [hWW]; simp
  rw [← hWW] at hW1 hW2 hB0
  have hsz3 : w.heap.size + 1 + 1 ≤ W2.heap.size := by omega
  clear hsz2
  replace hn := Lib.hid hn
  replace hn' := Lib.hid hn'
  replace hWW := Lib.hid hWW
  have hc1 := hW1.cell
  have hc2 := hW2.cell
  have hw0 := hB0.size
  have hee : (e != e) = false := by simp
  have hnn : ((n : Int) != n) = false := by simp
  have HS := Lib.hid (fun A c A' c' (xs : List Int) (w : World) (B B' n n' : Nat) (h1 : RB w B A n xs) (h2 : RB w B' A' n' xs) => sameBytes_same A A' n c n' c' xs w B B' h1 h2)
  unfold SameB at HS
  go_enter Try.func14, Try.ntmps14
  go_wp2_with fail
  rw [← hWW.out]
  go_loopw [25] (fun i wr => ∃ k : Nat, k ≤ n ∧ i = .int .i64 k ∧ Below (w.heap.size + 1 + 1) W2 wr) (fun i _ => n - (intOf i).toNat)
  case atStart => exact ⟨0, by omega, rfl, Below.refl _ _⟩
  case round =>
    clear hc1 hc2
    obtain ⟨k, hk, rfl, hbw⟩ := hrel
    have hx1 := hW1.fr (Fr.of_below hbw) (fun h => by omega)
    have hx2 := hW2.fr (Fr.of_below hbw) (fun h => by omega)
    have hc1 := hx1.cell
    have hc2 := hx2.cell
    have hl1 := hx1.lt
    have hl2 := hx2.lt
    have hbw1 : Below w.heap.size w wr := hB0.trans (hbw.mono (by omega))
    by_cases hlt : k < n
    rotate_left
    · go_wp2
      go_ret
      exact ⟨rfl, hbw1⟩
    · obtain ⟨b, o, g, rfl, hb, hg, hown, y0, y1, y2⟩ := pgs_at (h.grow hbw1) hn.out hlt
      obtain ⟨b', o', g', rfl, hb', hg', hown', z0, z1, z2⟩ := pgs_at (h'.grow hbw1) hn'.out hlt
      obtain ⟨p1, p2, p3⟩ := hp.2 k g hg
      obtain ⟨p1', p2', p3'⟩ := hp'.2 k g' hg'
      have e1 : g'.p = g.p := p1'.trans p1.symm
      have e2 : g'.r = g.r := p2'.trans p2.symm
      have e3 : g'.xs = g.xs := p3'.trans p3.symm
      rw [e1] at z0
      rw [e2] at z1
      have hrb : RB wr wr.heap.size g.A g.n g.xs := ⟨hown.1.reads, hown.2.2⟩
      have hrb' : RB wr wr.heap.size g'.A g'.n g.xs := ⟨by have := hown'.1.reads; rw [e3] at this; exact this, hown.2.2⟩
      have q1 : (g.p != g.p) = false := by simp
      have q2 : (g.r != g.r) = false := by simp
      have hkn : (k : Int) < n := by omega
      have hk0 : (0 : Int) ≤ k := by omega
      have HRB := Lib.hid hrb
      have HRB' := Lib.hid hrb'
      clear p1 p2 p3 p1' p2' p3' e1 e2 e3 hg hg' hrb hrb' hown hown'
      generalize hgn : g.n = gn at *
      generalize g.A = gA at *
      generalize g.c = gc at *
      generalize g.p = gp at *
      generalize g.r = gr at *
      generalize g.xs = gx at *
      generalize g'.A = gA' at *
      generalize g'.n = gn' at *
      generalize g'.c = gc' at *
      clear hgn
      go_wp2_with fail
      have HSW := Lib.hid (fun W (hb : Below wr.heap.size wr W) => HS.out gA gc gA' gc' gx W wr.heap.size wr.heap.size gn gn' (HRB.out.below' hb (Nat.le_refl _)) (HRB'.out.below' hb (Nat.le_refl _)))
      have HBW := Lib.hid hbw
      clear hbw
      go_region
      all_goals
        go_wp2_with fail
        refine (HSW.out _ ((((Below.refl wr.heap.size wr).alloc (Nat.le_refl _) _).alloc (by simp) _).drew)).mono ?_
        rintro e' w9 ⟨rfl, hb9⟩
        have hbf := Lib.hid (HBW.out.trans (((((((Below.refl wr.heap.size wr).alloc (Nat.le_refl _) _).alloc (by simp) _).drew).trans (hb9.mono (by simp; omega))).mono (by omega))))
        clear hb9
        go_wp2
        go_roundw
        case rel => exact ⟨k + 1, by omega, by go_num, hbf.out⟩
        case measure => simp [intOf]; omega
end Go.Proofs.Ytmndmdipjfblhaa
