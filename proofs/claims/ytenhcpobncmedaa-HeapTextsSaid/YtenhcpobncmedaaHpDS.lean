/- A heap (heap.Heap) with keys of type ByteArray: what is held of one; contracts of Compare, before and swap. -/
import Derived.Test.YtenhcpobncmedaaHpC
import Derived.Test.YtenhcpobncmedaaHpW
import Derived.BigRegion
import Derived.Deep.QuietTactic
import Derived.BigQuiet
namespace Go.Proofs.Ytenhcpobncmedaa.HS
open Go.RowKit
set_option maxHeartbeats 400000
set_option linter.unusedVariables false
set_option linter.unusedSimpArgs false
abbrev Ky := ByteArray
def klt (a b : ByteArray) : Bool := Op.bytesLess a.toList b.toList
theorem sord : SOrd klt := text_ord
/-- A pair's cells in the two rows. -/
def iv (p : Int × ByteArray) : Value := .int .i64 p.1
def kv (p : Int × ByteArray) : Value := .string p.2
def zp : Int × ByteArray := (0, ⟨#[]⟩)
structure St (w : World) (B g b : Nat) (vi vk : Value) (ps : List (Int × ByteArray)) (f : Int → Option Int) (cnt : Nat) : Prop where
  blk : Blk w g #[vi, vk, .map (some b)] 139
  ri : Row w B 3 1 vi ps.length (ps.map iv)
  rk : Row w B 9 1 vk ps.length (ps.map kv)
  map : IntMap Try.prog w 3 3 b cnt f
  ne : ∀ k, vi.ownBlock = some k → vk.ownBlock ≠ some k
  low : B ≤ g
  lowb : B ≤ b
def F (g b : Nat) (vi vk : Value) (k : Nat) : Prop := k = g ∨ k = b ∨ vi.ownBlock = some k ∨ vk.ownBlock = some k
def Goo (w : World) (B g b : Nat) (vi vk : Value) (ps : List (Int × ByteArray)) (f : Int → Option Int) (cnt : Nat) (w' : World) : Prop :=
  ∃ vi' vk', St w' B g b vi' vk' ps f cnt ∧ Fr (F g b vi vk) w w' ∧ ∀ k, F g b vi' vk' k → F g b vi vk k ∨ w.heap.size ≤ k
namespace St
variable {w w' : World} {B g b : Nat} {vi vk : Value} {ps : List (Int × ByteArray)} {f : Int → Option Int} {cnt : Nat}
theorem keep {S : Nat → Prop} (h : St w B g b vi vk ps f cnt) (hf : Fr S w w') (hn : ∀ k, F g b vi vk k → ¬ S k) : St w' B g b vi vk ps f cnt :=
  ⟨h.blk.fr hf (hn g (.inl rfl)), h.ri.fr hf (fun k hk => hn k (.inr (.inr (.inl hk)))), h.rk.fr hf (fun k hk => hn k (.inr (.inr (.inr hk)))), h.map.fr hf (hn b (.inr (.inl rfl))), h.ne, h.low, h.lowb⟩
theorem grow (h : St w B g b vi vk ps f cnt) (hb : Below w.heap.size w w') : St w' B g b vi vk ps f cnt := h.keep (Fr.of_grow hb) (fun _ _ h => h)
theorem drewN (h : St w B g b vi vk ps f cnt) (m : Nat) : St (w.drewN m) B g b vi vk ps f cnt := ⟨h.blk, h.ri, h.rk, h.map, h.ne, h.low, h.lowb⟩
theorem drew (h : St w B g b vi vk ps f cnt) : St w.drew B g b vi vk ps f cnt := ⟨h.blk, h.ri, h.rk, h.map, h.ne, h.low, h.lowb⟩
theorem lt (h : St w B g b vi vk ps f cnt) : ∀ k, F g b vi vk k → B ≤ k ∧ k < w.heap.size := fun k hk => by
  rcases hk with rfl | rfl | hk | hk
  · exact ⟨h.low, h.blk.lt⟩
  · exact ⟨h.lowb, h.map.lt⟩
  · exact h.ri.lt k hk
  · exact h.rk.lt k hk
theorem ig (h : St w B g b vi vk ps f cnt) : vi.ownBlock ≠ some g := wa_row_blk h.ri h.blk (by decide)
theorem kg (h : St w B g b vi vk ps f cnt) : vk.ownBlock ≠ some g := wa_row_blk h.rk h.blk (by decide)
theorem gb (h : St w B g b vi vk ps f cnt) : g ≠ b := h.map.blk_ne h.blk
theorem ib (h : St w B g b vi vk ps f cnt) : vi.ownBlock ≠ some b := h.map.row_ne h.ri
theorem kb (h : St w B g b vi vk ps f cnt) : vk.ownBlock ≠ some b := h.map.row_ne h.rk
theorem shapes (h : St w B g b vi vk ps f cnt) : ∃ A c A' c', vi = .slice A ps.length c ∧ ps.length ≤ c ∧ c ≤ maxLen ∧ vk = .slice A' ps.length c' ∧ ps.length ≤ c' ∧ c' ≤ maxLen := by
  obtain ⟨A, c, h1, h2, h3⟩ := h.ri.shape
  obtain ⟨A', c', h4, h5, h6⟩ := h.rk.shape
  exact ⟨A, c, A', c', h1, h2, h3, h4, h5, h6⟩
end St
/-- A row that is not empty, with its cells. -/
theorem row_cells {w : World} {B e n c : Nat} {A : Option Addr} {α : Type} {z : α} {l : List α} {v : α → Value} (h : Row w B e 1 (.slice A n c) n (l.map v)) (hn : 0 < n) :
    ∃ q o, A = some ⟨q, o, none⟩ ∧ B ≤ q ∧ q < w.heap.size ∧ (∀ j, j < n → w.cell? ⟨q, o + j, none⟩ = some (v (l.getD j z))) ∧ ∀ j, w.frozen? ⟨q, j, none⟩ = false := by
  rcases h.2 with ⟨e1, h0⟩ | ⟨q, o, cap, cur, e1, hb, hg, hnc, hcm, hs, hx⟩
  · omega
  · injection e1 with e1
    refine ⟨q, o, e1, hb, lt_blk hg, fun j hj => ?_, fun j => Blk.free (w := w) (cs := cur) (t := e) hg j⟩
    have hl : j < l.length := by have := h.1; simp at this; omega
    have := cell_of_row w q (o + j) cur e (0, 0) hg
    rw [this]
    refine hx j _ ?_
    rw [List.getElem?_map, List.getElem?_eq_getElem hl]
    simp [List.getD, List.getElem?_eq_getElem hl]
def cmpV (a b : ByteArray) : Int := if klt a b = true then -1 else if klt b a = true then 1 else 0
set_option maxRecDepth 100000 in
theorem nan198 (a : ByteArray) (w : World) : Calls Try.prog 198 #[.string a] w fun e w' => e = .returned (.bool false) ∧ w' = w := by
  go_enter Try.func198, Try.ntmps198
  go_wp2
  go_ret
  exact ⟨by simp, rfl⟩
set_option maxRecDepth 100000 in
theorem cmp174 (a b : ByteArray) (w : World) : Calls Try.prog 174 #[.string a, .string b] w fun e w' => e = .returned (.int .i64 (cmpV a b)) ∧ w' = w := by
  unfold cmpV klt
  cases h1 : Op.bytesLess a.toList b.toList with
  | true =>
    go_enter Try.func174, Try.ntmps174
    go_wp2
    go_ret
    exact ⟨rfl, rfl⟩
  | false =>
    cases h2 : Op.bytesLess b.toList a.toList with
    | true =>
      have h3 : (a.toList == b.toList) = false := by
        rw [Bool.eq_false_iff]
        intro h
        have e : a.toList = b.toList := by simpa using h
        rw [e, bl_irr] at h2; cases h2
      go_enter Try.func174, Try.ntmps174
      go_wp2
      go_ret
      exact ⟨rfl, rfl⟩
    | false =>
      have h3 : (a.toList == b.toList) = true := by rw [bl_tot _ _ h1 h2]; simp
      go_enter Try.func174, Try.ntmps174
      go_wp2
      go_ret
      exact ⟨rfl, rfl⟩
set_option maxHeartbeats 1000000 in
set_option maxRecDepth 100000 in
theorem before151 (g b : Nat) (vi vk : Value) (ps : List (Int × ByteArray)) (f : Int → Option Int) (cnt : Nat) (i j : Nat) (w : World) (B : Nat) (h : St w B g b vi vk ps f cnt) (hi : i < ps.length) (hj : j < ps.length) :
    Calls Try.prog 151 #[.pointer (some ⟨g, 0, none⟩), .int .i64 i, .int .i64 j] w fun e w' => e = .returned (.bool (bef klt (ps.getD i zp) (ps.getD j zp))) ∧ ∃ nq, w' = w.drewN nq := by
  obtain ⟨A, c, A', c', rfl, hc1, hc2, rfl, hc3, hc4⟩ := h.shapes
  obtain ⟨qi, oi, rfl, _, hql, hci, hfi⟩ := row_cells (z := zp) h.ri (by omega)
  obtain ⟨qk, ok, rfl, _, hqk, hck, hfk⟩ := row_cells (z := zp) h.rk (by omega)
  have b0 := h.blk.cell 0
  have b1 := h.blk.cell 1
  have bl := h.blk.lt
  have ii := hci i hi
  have ij := hci j hj
  have ki := hck i hi
  have kj := hck j hj
  unfold iv at ii ij
  unfold kv at ki kj
  clear h hci hck hfi hfk
  have hil : (i : Int) < (ps.length : Nat) := by omega
  have hjl : (j : Int) < (ps.length : Nat) := by omega
  unfold bef
  have HC := Lib.hid (cmp174 (ps.getD i zp).2 (ps.getD j zp).2)
  generalize ps.getD i zp = p at *
  generalize ps.getD j zp = q at *
  obtain ⟨pi, pk⟩ := p
  obtain ⟨qi', qk'⟩ := q
  dsimp only at ii ij ki kj HC ⊢
  generalize ps.length = n at *
  have HX := Lib.hid (sord.asym (x := pk) (y := qk'))
  unfold cmpV at HC
  generalize klt pk qk' = x at *
  generalize klt qk' pk = y at *
  clear hi hj
  go_enter Try.func151, Try.ntmps151
  go_wp2_with fail
  refine wp_region_quiet_lit (by kernel_rfl) (by kernel_rfl) ?_
  repeat (go_big_quiet_step (first | (go_at_call 174; exact Calls.quiet_of_same (HC.out _))))
  refine wpQuiet_nil ?_
  intro _ hw'
  obtain ⟨nq, hw''⟩ := hw'
  subst hw''
  cases x with
  | true =>
    have hy := HX.out rfl
    subst hy
    go_wp2
    go_ret
    exact ⟨by simp, nq, rfl⟩
  | false =>
    cases y with
    | true =>
      go_wp2
      go_ret
      exact ⟨by simp, nq, rfl⟩
    | false =>
      go_wp2_with fail
      refine wp_region_quiet_lit (by kernel_rfl) (by kernel_rfl) ?_
      repeat (go_big_quiet_step (fail))
      refine wpQuiet_nil ?_
      intro _ hw'
      obtain ⟨nq2, hw''⟩ := hw'
      subst hw''
      go_wp2
      go_ret
      exact ⟨by simp, nq + nq2, World.drewN_drewN _ _ _⟩
end Go.Proofs.Ytenhcpobncmedaa.HS
