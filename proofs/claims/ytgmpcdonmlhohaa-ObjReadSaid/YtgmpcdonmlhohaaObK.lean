/- Contracts of writer.half and writer.text. -/
import Derived.Test.YtgmpcdonmlhohaaObJ
import Derived.WalkSpells
namespace Go.Proofs.Ytgmpcdonmlhohaa
open Go.RowKit
set_option maxHeartbeats 400000
set_option linter.unusedVariables false
set_option linter.unusedSimpArgs false
/-- A writer: block g holds one slice, a row of bytes of the call's own, xs in it. -/
structure WS (w : World) (g base : Nat) (v : Value) (n : Nat) (xs : List Int) : Prop where
  blk : Blk w g #[v] 74
  row : Row w base 5 1 v n (xs.map (Value.int .u8))
  low : base ≤ g
def Wr (g : Nat) (v : Value) (k : Nat) : Prop := k = g ∨ v.ownBlock = some k
def WPost (w : World) (g base : Nat) (v : Value) (n : Nat) (xs : List Int) (e : Ending) (w' : World) : Prop :=
  e = .returned (.tuple #[]) ∧ ∃ v', WS w' g base v' n xs ∧ Fr (Wr g v) w w'
theorem ob_reads2 (w : World) (t : TypeId) (a b : Value) : Reads (w.alloc (.cells #[a, b] t)) (w.heap.size + 1) 1 (some ⟨w.heap.size, 0, none⟩) 2 [a, b] := by
  refine ⟨rfl, fun _ => ⟨w.heap.size, 0, rfl, by omega, fun j u hu => ?_⟩⟩
  rw [(Blk.new w #[a, b] t).cell]
  simpa using hu
/-- A number's two bytes. -/
def twoI (n : Int) : List Int := [n % 256, n / 256]
theorem WS.stored {w W W1 : World} {g base n m c' : Nat} {A' : Option Addr} {v : Value} {xs ys zs : List Int} (h : WS w g base v n xs) (hb : Below w.heap.size w W) (hg : W.grownBy W1 v.ownBlock)
    (hr : Row W1 base 5 1 (.slice A' m c') m (ys.map (Value.int .u8))) (hys : ys = zs) :
    ∃ v', WS (W1.setCell ⟨g, 0, none⟩ (.slice A' m c')) g base v' m zs ∧ Fr (Wr g v) w (W1.setCell ⟨g, 0, none⟩ (.slice A' m c')) := by
  subst hys
  have hbW : Blk W g #[v] 74 := h.blk.fr (Fr.of_grow hb) (fun h => h)
  have hne : v.ownBlock ≠ some g := row_blk h.row h.blk (by decide)
  have hb1 : Blk W1 g #[v] 74 := Blk.grown hbW hg (fun e => hne e.symm)
  have hne1 : (Value.slice A' m c').ownBlock ≠ some g := row_blk hr hb1 (by decide)
  refine ⟨_, ⟨by have := hb1.set 0 (.slice A' m c'); simpa using this, hr.setCell (p := ⟨g, 0, none⟩) hne1 _, h.low⟩, ?_⟩
  exact ((((Fr.of_grow hb).mono (S' := Wr g v) (fun _ _ h => h.elim)).grown hg (fun k hk _ => .inr hk)).setCell (p := ⟨g, 0, none⟩) (fun _ => .inl rfl) _)
theorem WS.len {w : World} {g base n : Nat} {v : Value} {xs : List Int} (h : WS w g base v n xs) : xs.length = n := by
  have := h.row.1
  simpa using this
theorem one_u (xs : List Int) : ∀ u ∈ xs.map (Value.int .u8), u.oneCell' = true := one_i xs
set_option maxRecDepth 100000 in
theorem half_any (g base n : Nat) (v : Value) (xs : List Int) (x : Int) (w : World) (h : WS w g base v n xs) (hx : 0 ≤ x ∧ x < 65536) (hn : n ≤ 1000000) :
    Calls Try.prog 29 #[.pointer (some ⟨g, 0, none⟩), .int .i64 x] w (WPost w g base v (n + 2) (xs ++ twoI x)) := by
  obtain ⟨i0, hi, hz0, hz1, hz2⟩ := info_parts infoB
  have hc := h.blk.cell
  have hf := h.blk.free
  have hlt := h.blk.lt
  have hlow := h.low
  obtain ⟨A, c, rfl, hnc, hcm⟩ := h.row.shape
  have HW := Lib.hid h
  go_enter Try.func29, Try.ntmps29
  go_wp2_with (at_builtin; refine wpList_append_row _ rfl (.tmp 8) (.tmp 14) 35 rfl base 5 i0 (.int .u8 0) 1 1 Try.underlying35 hi hz0 hz1 hz2 rfl (by decide) (.slice A n c) n (xs.map (Value.int .u8)) rfl ?c1 (w.heap.size + 1) (some ⟨w.heap.size, 0, none⟩) 2 2 ((twoI x).map (Value.int .u8)) rfl ?c2 (one_i _) ?c3 ?c4 ?c5 ?_; rotate_left; skip)
  case c1 => exact h.row.alloc _
  case c2 => exact ob_reads2 w 5 _ _
  case c3 => unfold maxLen; omega
  case c4 => omega
  case c5 => simp; omega
  intro A' c' w1 hr hg _
  have hb1 := HW.out.blk
  have hst := WS.stored (zs := xs ++ twoI x) HW.out ((Below.refl w.heap.size w).alloc (Nat.le_refl _) _) hg (ys := xs ++ twoI x) (by rw [List.map_append]; exact hr) rfl
  have hblk1 : Blk w1 g #[.slice A n c] 74 := Blk.grown (hb1.alloc _) hg (fun e => row_blk h.row h.blk (by decide) e.symm)
  have hc1 := hblk1.cell
  have hf1 := hblk1.free
  have hlt1 := hblk1.lt
  go_wp2
  refine bodyPost_ret (v := .tuple #[]) (by simp [results, Try.results29, go_sem]) rfl ?_
  exact ⟨rfl, hst⟩
theorem WS.store2 {w W1 : World} {g base n m c' : Nat} {A' : Option Addr} {v : Value} {xs ys zs : List Int} (h : WS w g base v n xs) (hf : Fr (Wr g v) w W1) (hb1 : Blk W1 g #[v] 74)
    (hr : Row W1 base 5 1 (.slice A' m c') m (ys.map (Value.int .u8))) (hys : ys = zs) :
    ∃ v', WS (W1.setCell ⟨g, 0, none⟩ (.slice A' m c')) g base v' m zs ∧ Fr (Wr g v) w (W1.setCell ⟨g, 0, none⟩ (.slice A' m c')) := by
  subst hys
  have hne1 : (Value.slice A' m c').ownBlock ≠ some g := row_blk hr hb1 (by decide)
  exact ⟨_, ⟨by have := hb1.set 0 (.slice A' m c'); simpa using this, hr.setCell (p := ⟨g, 0, none⟩) hne1 _, h.low⟩, hf.setCell (p := ⟨g, 0, none⟩) (fun _ => .inl rfl) _⟩
/-- A text's bytes. -/
def numI (s : ByteArray) : List Int := s.data.toList.map fun b => (b.toNat : Int)
theorem numI_len (s : ByteArray) : (numI s).length = s.size := by simp [numI]
theorem numI_cells (s : ByteArray) : Lib.strCells s = (numI s).map (Value.int .u8) := by simp [numI, Lib.strCells]
set_option maxRecDepth 100000 in
theorem text_any (g base n : Nat) (v : Value) (xs : List Int) (s : ByteArray) (w : World) (h : WS w g base v n xs) (hs : s.size ≤ 255) (hn : n ≤ 1000000) :
    Calls Try.prog 30 #[.pointer (some ⟨g, 0, none⟩), .string s] w (WPost w g base v (n + 1 + s.size) (xs ++ [(s.size : Int)] ++ numI s)) := by
  obtain ⟨i0, hi, hz0, hz1, hz2⟩ := info_parts infoB
  have hc := h.blk.cell
  have hf := h.blk.free
  have hlt := h.blk.lt
  have hlow := h.low
  obtain ⟨A, c, rfl, hnc, hcm⟩ := h.row.shape
  have HW := Lib.hid h
  go_enter Try.func30, Try.ntmps30
  go_wp2_with (at_builtin; refine wpList_append_row _ rfl (.tmp 8) (.tmp 12) 35 rfl base 5 i0 (.int .u8 0) 1 1 Try.underlying35 hi hz0 hz1 hz2 rfl (by decide) (.slice A n c) n (xs.map (Value.int .u8)) rfl ?c1 (w.heap.size + 1) (some ⟨w.heap.size, 0, none⟩) 1 1 ([(s.size : Int)].map (Value.int .u8)) rfl ?c2 (one_i _) ?c3 ?c4 ?c5 ?_; rotate_left; skip)
  case c1 => exact h.row.alloc _
  case c2 => exact reads_one w _ _
  case c3 => unfold maxLen; omega
  case c4 => omega
  case c5 => simp; omega
  intro A1 c1 w1 hr hg hcase
  have hr1 : Row w1 base 5 1 (.slice A1 (n + 1) c1) (n + 1) ((xs ++ [(s.size : Int)]).map (Value.int .u8)) := by rw [List.map_append]; exact hr
  have hal : Below w.heap.size w (w.alloc (.cells #[.int .u8 (s.size : Int)] 5)) := (Below.refl _ _).alloc (Nat.le_refl _) _
  have hf1 : Fr (Wr g (.slice A n c)) w w1 := ((Fr.of_grow hal).mono (S' := Wr g (.slice A n c)) (fun _ _ h => h.elim)).grown hg (fun k hk _ => .inr hk)
  have hbk1 : Blk w1 g #[.slice A n c] 74 := Blk.grown (h.blk.alloc _) hg (fun e => row_blk h.row h.blk (by decide) e.symm)
  have hsz1 : w.heap.size < w1.heap.size := by have := hg.size; simp at this; omega
  clear hr
  go_wp2_with (at_builtin; refine wpList_append_row_str _ rfl (.tmp 13) (.tmp 14) 35 9 rfl base 5 i0 Try.underlying35 Try.underlying9 hi hz0 hz1 hz2 (.slice A1 (n + 1) c1) (n + 1) ((xs ++ [(s.size : Int)]).map (Value.int .u8)) rfl hr1 s rfl ?c6 ?c7 ?c8 ?_; rotate_left; skip)
  case c6 => unfold maxLen; omega
  case c7 => omega
  case c8 => omega
  intro A2 c2 w2 hr2 hg2 _
  have hbk2 : Blk w2 g #[.slice A n c] 74 := Blk.grown hbk1 hg2 (fun e => row_blk hr1 hbk1 (by decide) e.symm)
  have hf2 : Fr (Wr g (.slice A n c)) w w2 := hf1.grown hg2 (fun k hk hlt => by
    rcases own_cases hcase hk with e | e
    · exact .inr e
    · omega)
  have hst := WS.store2 (zs := xs ++ [(s.size : Int)] ++ numI s) h hf2 hbk2 (ys := xs ++ [(s.size : Int)] ++ numI s) (by have := hr2; rw [numI_cells] at this; simpa using this) rfl
  have hc2 := hbk2.cell
  have hfz2 := hbk2.free
  have hlt2 := hbk2.lt
  go_wp2
  refine bodyPost_ret (v := .tuple #[]) (by simp [results, Try.results30, go_sem]) rfl ?_
  exact ⟨rfl, by simpa using hst⟩
end Go.Proofs.Ytgmpcdonmlhohaa
