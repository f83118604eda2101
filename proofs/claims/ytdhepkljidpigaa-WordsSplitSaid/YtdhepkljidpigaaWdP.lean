/- Tokens in memory; strings.IndexFunc; words.Split (printed by mkWdP.py). -/
import Derived.Test.YtdhepkljidpigaaWdO
import Derived.Ground.GgwProg
namespace Go.Proofs
open Go.Shelf
shelf_lay LaysGw.n15 Ggw 15 at Try as Try.lays15
end Go.Proofs
namespace Go.Proofs.Ytdhepkljidpigaa
open Go.RowKit
set_option maxHeartbeats 400000
set_option linter.unusedVariables false
set_option linter.unusedSimpArgs false
theorem chB_any (x : Nat) (w : World) (hx : x ≤ 1114111) : Calls Try.prog 10 #[.int .i32 x] w (fun e w' => e = .returned (.bool (chB x)) ∧ w' = w) := by
  by_cases h1 : x < 32
  · have e : Hid (chB x = true) := Lib.hid (by simp [chB]; omega)
    have q : decide ((x : Int) < 32) = true := by simp; omega
    go_enter Try.func10, Try.ntmps10
    go_wp2
    go_ret
    exact ⟨by rw [e.out]; rfl, rfl⟩
  · have e : Hid (chB x = decide (126 < x)) := Lib.hid (by simp [chB]; omega)
    have q : decide ((x : Int) < 32) = false := by simp; omega
    have e2 : Hid (decide ((126 : Int) < x) = decide (126 < x)) := Lib.hid (by rw [decide_eq_decide]; omega)
    go_enter Try.func10, Try.ntmps10
    go_wp2
    go_ret
    exact ⟨by rw [e.out, ← e2.out]; simp [h1], rfl⟩
theorem indexFunc_any (s : ByteArray) (w : World) : Calls Try.prog 9 #[.string s, .func (.func 10) #[] #[]] w (fun e w' => e = .returned (.int .i64 (fb s)) ∧ Below w.heap.size w w') := by
  have h := Any.strings_IndexFunc_grows Try.lays15 10 #[] (enters_of Try.func10 (by kernel_rfl) rfl) chB s w (fun W x hx _ => (chB_any x W hx).mono (by rintro e w' ⟨rfl, rfl⟩; exact ⟨rfl, Below.refl _ _⟩))
  rw [idxFunc_fb] at h
  exact h
/-- A token with its parts' place in memory. -/
structure Tm where
  op : ByteArray
  A : Option Addr
  n : Nat
  c : Nat
  ps : List Pt
  k : Nat
def Tm.zero : Tm := ⟨ByteArray.empty, none, 0, 0, [], 0⟩
def Tm.cells (m : Tm) : List Value := [.string m.op, .slice m.A m.n m.c, .int .i64 m.k]
def Tm.tk (m : Tm) : Tk := ⟨m.op, m.ps, m.k⟩
theorem tm_oneCell (m : Tm) : ∀ u ∈ m.cells, u.oneCell' = true := by
  intro u hu
  simp [Tm.cells] at hu
  rcases hu with rfl | rfl | rfl <;> rfl
theorem infoTm : (Try.prog.info? 36).map (fun i => (i.zero, i.size, i.bytes)) = some (some (.agg #[.string ⟨#[]⟩, .slice none 0 0, .int .i64 0]), 3, 48) := by kernel_rfl
/-- Tokens as a slice of the call's own, in blocks from B on; so are their parts. -/
structure TS (w : World) (B : Nat) (A : Option Addr) (n c : Nat) (ms : List Tm) : Prop where
  row : Row w B 36 3 (.slice A n c) n (ms.flatMap Tm.cells)
  len : ms.length = n
  parts : ∀ m ∈ ms, PR w B (.slice m.A m.n m.c) m.n m.ps
theorem row_row {w : World} {base base' e e' size size' n n' : Nat} {v v' : Value} {xs xs' : List Value} (h : Row w base e size v n xs) (h' : Row w base' e' size' v' n' xs') (ht : e ≠ e') {k : Nat} (hk : v.ownBlock = some k) : v'.ownBlock ≠ some k := by
  intro hk'
  rcases h.2 with ⟨rfl, _⟩ | ⟨g, o, cap, cur, rfl, _, hg, _⟩
  · simp [Value.ownBlock] at hk
  rcases h'.2 with ⟨rfl, _⟩ | ⟨g', o', cap', cur', rfl, _, hg', _⟩
  · simp [Value.ownBlock] at hk'
  simp [Value.ownBlock] at hk hk'
  subst hk; subst hk'
  rw [hg] at hg'
  injection hg' with hg'
  injection hg' with _ e1
  exact ht e1
theorem row_blk {w : World} {base e size n g : Nat} {v : Value} {xs : List Value} {cs : Array Value} {t : TypeId} (h : Row w base e size v n xs) (hb : Blk w g cs t) (ht : e ≠ t) : v.ownBlock ≠ some g := by
  intro hk
  rcases h.2 with ⟨rfl, _⟩ | ⟨g', o, cap, cur, rfl, _, hg, _⟩
  · simp [Value.ownBlock] at hk
  simp [Value.ownBlock] at hk
  subst hk
  unfold Blk at hb
  rw [hg] at hb
  injection hb with hb
  injection hb with _ e1
  exact ht e1
theorem TS.nil (w : World) (B : Nat) : TS w B none 0 0 [] := ⟨Row.nil _ _ _ _, rfl, fun m hm => by simp at hm⟩
theorem TS.fr {S : Nat → Prop} {w w' : World} {B n c : Nat} {A : Option Addr} {ms : List Tm} (h : TS w B A n c ms) (hf : Fr S w w') (h1 : ∀ k, (Value.slice A n c).ownBlock = some k → ¬ S k) (h2 : ∀ m ∈ ms, ∀ k, (Value.slice m.A m.n m.c).ownBlock = some k → ¬ S k) : TS w' B A n c ms :=
  ⟨h.row.fr hf h1, h.len, fun m hm => (h.parts m hm).fr hf (h2 m hm)⟩
theorem TS.grow {w w' : World} {B n c : Nat} {A : Option Addr} {ms : List Tm} (h : TS w B A n c ms) (hb : Below w.heap.size w w') : TS w' B A n c ms := h.fr (Fr.of_grow hb) (fun _ _ h => h) (fun _ _ _ _ h => h)
/-- Behind writes into the reader's block and new blocks. -/
theorem TS.frG {w w' : World} {B n c g : Nat} {A : Option Addr} {ms : List Tm} {cs : Array Value} (h : TS w B A n c ms) (hb : Blk w g cs 33) (hf : FrG w.heap.size g w w') : TS w' B A n c ms :=
  h.fr hf (fun k hk hs => by
    rcases hs with rfl | hs
    · exact row_blk h.row hb (by decide) hk
    · have := (h.row.lt k hk).2; omega) (fun m hm k hk hs => by
    rcases hs with rfl | hs
    · exact row_blk (h.parts m hm).1 hb (by decide) hk
    · have := ((h.parts m hm).1.lt k hk).2; omega)
/-- A token appended. -/
theorem TS.app {w w' : World} {B n c : Nat} {A : Option Addr} {ms : List Tm} {m : Tm} {A' : Option Addr} {c' : Nat} {o : Obj} (h : TS w B A n c ms) (hm : PR w B (.slice m.A m.n m.c) m.n m.ps)
    (hr : Row w' B 36 3 (.slice A' (n + 1) c') (n + 1) (ms.flatMap Tm.cells ++ m.cells)) (hg : (w.alloc o).grownBy w' (Value.slice A n c).ownBlock) : TS w' B A' (n + 1) c' (ms ++ [m]) := by
  refine ⟨by rw [List.flatMap_append]; simpa using hr, by simp [h.len], fun x hx => ?_⟩
  have keep : ∀ x : Tm, PR w B (.slice x.A x.n x.c) x.n x.ps → PR w' B (.slice x.A x.n x.c) x.n x.ps := fun x hp =>
    ⟨(hp.1.alloc o).grown hg (fun k hk => row_row (hp.1.alloc o) (h.row.alloc o) (by decide) hk), hp.2⟩
  rcases List.mem_append.1 hx with hx | hx
  · exact keep x (h.parts x hx)
  · simp at hx; subst hx; exact keep _ hm
theorem TS.base_le {w : World} {B B' n c : Nat} {A : Option Addr} {ms : List Tm} (h : TS w B A n c ms) (hB : B' ≤ B) : TS w B' A n c ms := ⟨h.row.base_le hB, h.len, fun m hm => ⟨(h.parts m hm).1.base_le hB, (h.parts m hm).2⟩⟩
def SPost (B : Nat) (R : SRes) (w : World) (e : Ending) (w' : World) : Prop :=
  ∃ A n c ms k er, e = .returned (.tuple #[.slice A n c, .int .i64 k, .int .i64 er]) ∧ TS w' B A n c ms ∧ R = (ms.map Tm.tk, k, er) ∧ FrB B w w'
/-- The place that the reader in block g holds, by its cells. -/
theorem posOf_blk {w : World} {g : Nat} {s : ByteArray} {k : Nat} {v b : Value} (h : Blk w g #[.string s, .int .i64 k, v, b] 33) : posOf w g = k := by
  have h1 := h.cell 1
  unfold posOf
  rw [h1]
  rfl
/-- What stands at the head of Split's loop. -/
structure SM (w : World) (B g : Nat) (s : ByteArray) (R : SRes) (A : Option Addr) (n c : Nat) (ms : List Tm) (j : Nat) (wr : World) : Prop where
  blk : ∃ Av nv cv, Blk wr g #[.string s, .int .i64 j, .slice Av nv cv, .int .i64 (-1)] 33
  ts : TS wr B A n c ms
  fr : FrB B w wr
  base : B ≤ wr.heap.size
  low : B ≤ g
  res : Hid (R = sp s j (ms.map Tm.tk))
  le : j ≤ s.size
  len : n ≤ j
theorem SM.setAt {w : World} {B g : Nat} {s : ByteArray} {R : SRes} {A : Option Addr} {n c : Nat} {ms : List Tm} {j : Nat} {wr : World} (h : SM w B g s R A n c ms j wr) {j' : Nat} (hr : sp s j (ms.map Tm.tk) = sp s j' (ms.map Tm.tk)) (hj : j ≤ j') (hj' : j' ≤ s.size) : SM w B g s R A n c ms j' (wr.setCell ⟨g, 1, none⟩ (.int .i64 j')) := by
  obtain ⟨Av, nv, cv, hb⟩ := h.blk
  refine ⟨⟨Av, nv, cv, by simpa using hb.set 1 (.int .i64 j')⟩, ?_, Fr.setCell h.fr (p := ⟨g, 1, none⟩) (fun _ => h.low) _, by simpa using h.base, h.low, Lib.hid (h.res.out.trans hr), hj', Nat.le_trans h.len hj⟩
  exact h.ts.fr (S := fun k => k = g) ((Fr.refl (fun k => k = g) wr).setCell (p := ⟨g, 1, none⟩) (fun _ => rfl) _) (fun k hk e => by subst e; exact row_blk h.ts.row hb (by decide) hk) (fun m hm k hk e => by subst e; exact row_blk (h.ts.parts m hm).1 hb (by decide) hk)
/-- A token appended. -/
theorem sm_app {w : World} {B g : Nat} {s : ByteArray} {A : Option Addr} {n c : Nat} {ms : List Tm} {j : Nat} {wr w' : World} {m : Tm} {A' : Option Addr} {c' : Nat} {o : Obj} {Av : Option Addr} {nv cv : Nat}
    (hts : TS wr B A n c ms) (hfr : FrB B w wr) (hbase : B ≤ wr.heap.size) (hblk : Blk wr g #[.string s, .int .i64 j, .slice Av nv cv, .int .i64 (-1)] 33) (hm : PR wr B (.slice m.A m.n m.c) m.n m.ps) (hr : Row w' B 36 3 (.slice A' (n + 1) c') (n + 1) (ms.flatMap Tm.cells ++ m.cells)) (hg : (wr.alloc o).grownBy w' (Value.slice A n c).ownBlock) :
    Blk w' g #[.string s, .int .i64 j, .slice Av nv cv, .int .i64 (-1)] 33 ∧ TS w' B A' (n + 1) c' (ms ++ [m]) ∧ FrB B w w' ∧ B ≤ w'.heap.size := by
  have hf : FrB B wr w' := (FrB.of_below ((Below.refl wr.heap.size wr).alloc (Nat.le_refl _) o) hbase).trans ((Fr.of_grown hg).mono fun k hk hs => ((hts.row.alloc o).lt k hs).1)
  have hb : Blk w' g #[.string s, .int .i64 j, .slice Av nv cv, .int .i64 (-1)] 33 := (hblk.alloc o).fr (Fr.of_grown hg) (fun e => row_blk (hts.row.alloc o) (hblk.alloc o) (by decide) e)
  exact ⟨hb, hts.app hm hr hg, hfr.trans hf, Nat.le_trans hbase hf.size⟩
theorem sm_set {w : World} {B g : Nat} {s : ByteArray} {R : SRes} {A : Option Addr} {n c : Nat} {ms : List Tm} {j j' : Nat} {wr : World} {Av : Option Addr} {nv cv : Nat} (hblk : Blk wr g #[.string s, .int .i64 j, .slice Av nv cv, .int .i64 (-1)] 33)
    (hts : TS wr B A n c ms) (hfr : FrB B w wr) (hbase : B ≤ wr.heap.size) (hlow : B ≤ g) (hr : Hid (R = sp s j' (ms.map Tm.tk))) (hj : j' ≤ s.size) (hn : n ≤ j') : SM w B g s R A n c ms j' (wr.setCell ⟨g, 1, none⟩ (.int .i64 j')) := by
  refine ⟨⟨Av, nv, cv, by simpa using hblk.set 1 (.int .i64 j')⟩, ?_, Fr.setCell hfr (p := ⟨g, 1, none⟩) (fun _ => hlow) _, by simpa using hbase, hlow, hr, hj, hn⟩
  exact hts.fr (S := fun k => k = g) ((Fr.refl (fun k => k = g) wr).setCell (p := ⟨g, 1, none⟩) (fun _ => rfl) _) (fun k hk e => by subst e; exact row_blk hts.row hblk (by decide) hk) (fun m hm k hk e => by subst e; exact row_blk (hts.parts m hm).1 hblk (by decide) hk)
set_option maxHeartbeats 4000000 in
set_option maxRecDepth 100000 in
theorem split_any (s : ByteArray) (w : World) : Calls Try.prog 4 #[.string s] w (SPost w.heap.size (splitS s) w) := by
  obtain ⟨i0, hi, hz0, hz1, hz2⟩ := info_parts infoTm
  have HR : Hid (splitS s = if 200 < s.size then ([], 0, 2) else if 0 ≤ fb s then ([], fb s, 22) else sp s 0 []) := Lib.hid rfl
  obtain ⟨R, hR⟩ : ∃ R, splitS s = R := ⟨_, rfl⟩
  rw [hR] at HR ⊢
  clear hR
  obtain ⟨B, hB⟩ : ∃ B, w.heap.size = B := ⟨_, rfl⟩
  rw [hB]
  have hBw : B ≤ w.heap.size := by omega
  have HB := Lib.hid hB
  clear hB
  by_cases hs : 200 < s.size
  · have e := HR.out
    rw [if_pos hs] at e
    have E := Lib.hid e
    clear e
    have hsi : (200 : Int) < s.size := by omega
    go_enter Try.func4, Try.ntmps4
    go_wp2
    refine bodyPost_ret (v := .tuple #[.slice none 0 0, .int .i64 0, .int .i64 2]) (by simp [results, Try.results4, go_sem]) rfl ?_
    exact ⟨none, 0, 0, [], 0, 2, rfl, TS.nil _ _, E.out, FrB.refl _ _⟩
  have hsi : ¬ (200 : Int) < s.size := by omega
  have HI := Lib.hid (indexFunc_any s w)
  have HFB := fb_spec s
  have HRR := HR.out
  rw [if_neg hs] at HRR
  have HR2 := Lib.hid HRR
  clear HR HRR
  generalize fb s = Q at *
  go_enter Try.func4, Try.ntmps4
  go_wp2_with fail
  refine HI.out.mono ?_
  rintro e w1 ⟨rfl, hb1⟩
  have hf1 := FrB.of_below hb1 hBw
  rcases HFB with rfl | ⟨i, rfl, hi1⟩
  rotate_left
  · have e := HR2.out
    rw [if_pos (show (0 : Int) ≤ i by omega)] at e
    have E := Lib.hid e
    clear e
    have hq : decide ((0 : Int) ≤ i) = true := by simp
    go_wp2
    refine bodyPost_ret (v := .tuple #[.slice none 0 0, .int .i64 i, .int .i64 22]) (by simp [results, Try.results4, go_sem]) rfl ?_
    exact ⟨none, 0, 0, [], i, 22, rfl, TS.nil _ _, E.out, hf1⟩
  have e := HR2.out
  rw [if_neg (show ¬ (0 : Int) ≤ -1 by omega)] at e
  have E := Lib.hid e
  clear e HR2
  have hq : decide ((0 : Int) ≤ -1) = false := rfl
  have hs1 := hb1.size
  have hB1 : B ≤ w1.heap.size := by omega
  have HN := Lib.hid (Blk.new w1 #[.string s, .int .i64 0, .slice none 0 0, .int .i64 (-1)] 33)
  have HM : Hid (SM w B w1.heap.size s R none 0 0 [] 0 (w1.alloc (.cells #[.string s, .int .i64 0, .slice none 0 0, .int .i64 (-1)] 33))) :=
    Lib.hid ⟨⟨none, 0, 0, HN.out⟩, TS.nil _ _, hf1.trans (FrB.of_below ((Below.refl _ _).alloc (Nat.le_refl _) _) hB1), by simp; omega, hB1, E, Nat.zero_le _, Nat.le_refl _⟩
  clear hb1 hf1 HI
  go_wp2_with fail
  obtain ⟨g, hg⟩ : ∃ g, w1.heap.size = g := ⟨_, rfl⟩
  rw [hg] at HM
  rw [hg]
  obtain ⟨W1, hW1⟩ : ∃ W, W = w1.alloc (.cells #[.string s, .int .i64 0, .slice none 0 0, .int .i64 (-1)] 33) := ⟨_, rfl⟩
  rw [← hW1] at HM
  rw [← hW1]
  clear hg HN hW1 hs1 hB1 E HB
  go_loopw [7] (fun v7 wr => ∃ A n c ms j, v7 = .slice A n c ∧ SM w B g s R A n c ms j wr) (fun _ wr => s.size - posOf wr g)
  case atStart => exact ⟨none, 0, 0, [], 0, rfl, HM.out⟩
  case round =>
    clear HM
    obtain ⟨A, n, c, ms, j, rfl, hm⟩ := hrel
    obtain ⟨Av, nv, cv, hblk⟩ := hm.blk
    have c0 := hblk.cell
    have lg := hblk.lt
    have fz := hblk.free
    have hle := hm.le
    have hpos := posOf_blk hblk
    have hbs := hm.base
    by_cases hlt : j < s.size
    rotate_left
    · obtain rfl : j = s.size := by omega
      have hst := Lib.hid (hm.res.out.trans (sp_end (Nat.le_refl _)))
      go_wp2
      refine bodyPost_ret (v := .tuple #[.slice A n c, .int .i64 0, .int .i64 0]) (by simp [results, Try.results4, go_sem]) rfl ?_
      exact ⟨A, n, c, ms, 0, 0, rfl, hm.ts, hst.out, hm.fr⟩
    have hq1 : (j : Int) < s.size := by omega
    have hq2 : (j : Int) ≤ s.size := by omega
    have hb0 := bt_at s j hlt
    have hb256 := bt_lt s j
    obtain ⟨cc, hcc⟩ : ∃ cc, bt s j = cc := ⟨_, rfl⟩
    rw [hcc] at hb0 hb256
    have HC := Lib.hid hcc
    clear hcc
    obtain ⟨O, hO⟩ : ∃ O, opS (s.extract j s.size) = O := ⟨_, rfl⟩
    have HOO := Lib.hid hO
    have HOC := Lib.hid (fun W => op_any (s.extract j s.size) W)
    have hOl := opS_le s j hle
    rw [hO] at HOC hOl
    clear hO
    go_wp2_with fail
    refine (HOC.out wr).mono ?_
    rintro e w2 ⟨rfl, rfl⟩
    by_cases d32 : cc = 32
    · subst d32
      have hx := hm.setAt (j' := j + 1) (sp_blank hlt HC.out) (by omega) (by omega)
      rw [show ((j + 1 : Nat) : Int) = (j : Int) + 1 by omega] at hx
      go_wp2
      go_roundw
      case rel => exact ⟨A, n, c, ms, j + 1, rfl, hx⟩
      case measure =>
        obtain ⟨Av', nv', cv', hb'⟩ := hx.blk
        simp only [posOf_blk hb', hpos]
        omega
    have q32 : ((cc : Int) == 32) = false := by simp; omega
    by_cases d35 : cc = 35
    · subst d35
      have hst := Lib.hid (hm.res.out.trans (sp_hash hlt HC.out))
      go_wp2
      refine bodyPost_ret (v := .tuple #[.slice A n c, .int .i64 0, .int .i64 0]) (by simp [results, Try.results4, go_sem]) rfl ?_
      exact ⟨A, n, c, ms, 0, 0, rfl, hm.ts, hst.out, hm.fr⟩
    have q35 : ((cc : Int) == 35) = false := by simp; omega
    have hrow := hm.ts.row
    have hn2 : n ≤ 200 := by have := hm.len; omega
    by_cases dO : O.size = 0
    rotate_left
    · have hst := Lib.hid (hm.res.out.trans (sp_sign (ts := ms.map Tm.tk) hlt (by rw [HC.out]; exact d32) (by rw [HC.out]; exact d35) HOO.out dO))
      have hOe := bytes_some dO
      go_wp2_with (at_builtin; refine wpList_append_row _ rfl (.tmp 89) (.tmp 96) 22 rfl B 36 i0 (.agg #[.string ⟨#[]⟩, .slice none 0 0, .int .i64 0]) 3 48 Try.underlying22 hi hz0 hz1 hz2 rfl (by decide) (.slice A n c) n (ms.flatMap Tm.cells) rfl (hrow.alloc _) (w2.heap.size + 1) (some ⟨w2.heap.size, 0, none⟩) 1 1 (Tm.cells ⟨O, none, 0, 0, [], j⟩) rfl (reads_cells w2 (Tm.cells ⟨O, none, 0, 0, [], j⟩) 36 rfl) (tm_oneCell _) (by unfold maxLen; omega) (by omega) (by simp; omega) ?_)
      intro A2 c2 w3 hr3 hg3 ho3
      obtain ⟨hb3, hts3, hfr3, hbs3⟩ := sm_app (m := ⟨O, none, 0, 0, [], j⟩) hm.ts hm.fr hm.base hblk ⟨Row.nil _ _ _ _, rfl⟩ hr3 hg3
      have hx := sm_set (R := R) (j' := j + O.size) hb3 hts3 hfr3 hbs3 hm.low (Lib.hid (by rw [List.map_append]; exact hst.out)) hOl (by have := hm.len; omega)
      rw [show ((j + O.size : Nat) : Int) = (j : Int) + O.size by omega] at hx
      clear hr3 hg3 ho3 c0 lg fz hrow hts3 hfr3
      have c0 := hb3.cell
      have lg := hb3.lt
      have fz := hb3.free
      go_wp2
      go_roundw
      case rel => exact ⟨A2, n + 1, c2, ms ++ [⟨O, none, 0, 0, [], j⟩], j + O.size, rfl, hx⟩
      case measure =>
        obtain ⟨Av', nv', cv', hb'⟩ := hx.blk
        have := posOf_blk hb'
        simp only [this, hpos]
        omega
    have hOe := bytes_none dO
    obtain ⟨W2, hW2⟩ : ∃ W, W = w2.setCell ⟨g, 2, none⟩ (.slice none 0 0) := ⟨_, rfl⟩
    have hW2s : W2.heap.size = w2.heap.size := by rw [hW2]; simp
    have hblk2 : Blk W2 g #[.string s, .int .i64 j, .slice none 0 0, .int .i64 (-1)] 33 := by rw [hW2]; simpa using hblk.set 2 (.slice none 0 0)
    have hrd : RdSt W2 W2.heap.size g s j (-1) none 0 0 [] := ⟨hblk2, ⟨Row.nil _ _ _ _, rfl⟩, hblk2.lt, Nat.le_refl _⟩
    have hts2 : TS W2 B A n c ms := by
      rw [hW2]
      exact hm.ts.fr (S := fun k => k = g) ((Fr.refl (fun k => k = g) w2).setCell (p := ⟨g, 2, none⟩) (fun _ => rfl) _) (fun k hk e => by subst e; exact row_blk hm.ts.row hblk (by decide) hk) (fun m hm' k hk e => by subst e; exact row_blk (hm.ts.parts m hm').1 hblk (by decide) hk)
    have hfr2 : FrB B w W2 := by rw [hW2]; exact Fr.setCell hm.fr (p := ⟨g, 2, none⟩) (fun _ => hm.low) _
    have hW := Lib.hid (word_any W2.heap.size g s j none 0 0 [] W2 hrd (by omega) (by omega) ⟨Nat.zero_le _, fun p hp => by simp at hp⟩)
    have H2 := Lib.hid (show Blk W2 g #[.string s, .int .i64 j, .slice none 0 0, .int .i64 (-1)] 33 ∧ TS W2 B A n c ms ∧ FrB B w W2 ∧ B ≤ W2.heap.size from ⟨hblk2, hts2, hfr2, by rw [hW2s]; exact hbs⟩)
    clear hW2s hblk2 hrd hts2 hfr2 hrow
    go_wp2_with fail
    rw [← hW2]
    clear c0 lg fz hW2
    refine hW.out.mono ?_
    rintro e w3 ⟨rfl, hf3, k', ps3, bad3, ⟨A3, n3, c3, hrd3⟩, hcase⟩
    obtain ⟨h21, h22, h23, h24⟩ := H2.out
    have hts3 := h22.frG h21 hf3
    have hfr3 : FrB B w w3 := h23.trans (hf3.mono fun k hk hs => by
      have := hm.low
      rcases hs with rfl | hs
      · exact this
      · omega)
    have hs3 := hf3.size
    have hbs3 : B ≤ w3.heap.size := by omega
    have c0 := hrd3.blk.cell
    have lg := hrd3.blk.lt
    have fz := hrd3.blk.free
    rcases hcase with ⟨rfl, hw3, hk3, hfw3⟩ | ⟨b, rfl, hw3⟩
    rotate_left
    · have hst := Lib.hid (hm.res.out.trans (sp_bad (ts := ms.map Tm.tk) hlt (by rw [HC.out]; exact d32) (by rw [HC.out]; exact d35) HOO.out dO hw3))
      have hbq : decide ((0 : Int) ≤ b) = true := by simp
      go_wp2_with fail
      refine wp_region_quiet_lit (by kernel_rfl) (by kernel_rfl) ?_
      repeat (go_big_quiet_step (fail))
      refine wpQuiet_nil ?_
      rintro w4 ⟨kn, rfl⟩
      go_wp2
      refine bodyPost_ret (v := .tuple #[.slice none 0 0, .int .i64 b, .int .i64 22]) (by simp [results, Try.results4, go_sem]) rfl ?_
      exact ⟨none, 0, 0, [], b, 22, rfl, TS.nil _ _, hst.out, Fr.drewN hfr3 _⟩
    obtain ⟨g1, g2, g3⟩ := sp_word (ts := ms.map Tm.tk) hlt (by rw [HC.out]; exact d32) (by rw [HC.out]; exact d35) HOO.out dO hw3
    have hst := Lib.hid (hm.res.out.trans g3)
    clear g3 hw3
    have hbq : decide ((0 : Int) ≤ -1) = false := rfl
    have hrow := hts3.row
    go_wp2_with (at_builtin; refine wpList_append_row _ rfl (.tmp 53) (.tmp 60) 22 rfl B 36 i0 (.agg #[.string ⟨#[]⟩, .slice none 0 0, .int .i64 0]) 3 48 Try.underlying22 hi hz0 hz1 hz2 rfl (by decide) (.slice A n c) n (ms.flatMap Tm.cells) rfl (hrow.alloc _) (w3.heap.size + 1) (some ⟨w3.heap.size, 0, none⟩) 1 1 (Tm.cells ⟨ByteArray.empty, A3, n3, c3, ps3, j⟩) rfl (reads_cells w3 (Tm.cells ⟨ByteArray.empty, A3, n3, c3, ps3, j⟩) 36 rfl) (tm_oneCell _) (by unfold maxLen; omega) (by omega) (by simp; omega) ?_)
    intro A4 c4 w4 hr4 hg4 ho4
    obtain ⟨hb4, hts4, hfr4, hbs4⟩ := sm_app (m := ⟨ByteArray.empty, A3, n3, c3, ps3, j⟩) hts3 hfr3 hbs3 hrd3.blk ⟨hrd3.pr.1.base_le h24, hrd3.pr.2⟩ hr4 hg4
    have hx : SM w B g s R A4 (n + 1) c4 (ms ++ [⟨ByteArray.empty, A3, n3, c3, ps3, j⟩]) k' w4 := ⟨⟨_, _, _, hb4⟩, hts4, hfr4, hbs4, hm.low, Lib.hid (by rw [List.map_append]; exact hst.out), hk3, by have := hm.len; omega⟩
    clear hr4 hg4 ho4 c0 lg fz hrow hts4 hfr4
    go_wp2
    go_roundw
    case rel => exact ⟨A4, n + 1, c4, ms ++ [⟨ByteArray.empty, A3, n3, c3, ps3, j⟩], k', rfl, hx⟩
    case measure =>
      simp only [posOf_blk hb4, hpos]
      omega
end Go.Proofs.Ytdhepkljidpigaa
