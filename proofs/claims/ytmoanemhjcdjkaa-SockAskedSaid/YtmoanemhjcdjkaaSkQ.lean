/- Contracts of slices.IndexFunc and slices.DeleteFunc at []int with a test for one number. -/
import Derived.Test.YtmoanemhjcdjkaaSkG
import Derived.Test.YtmoanemhjcdjkaaDel
import Derived.Test.YtmoanemhjcdjkaaRecs
namespace Go.Proofs.Ytmoanemhjcdjkaa
open Go.RowKit
set_option maxHeartbeats 400000
set_option linter.unusedVariables false
set_option linter.unusedSimpArgs false
theorem sl_bool {a b : Bool} (h : a = b) : Ending.returned (.bool a) = .returned (.bool b) := by rw [h]
theorem sl_int {k : IntKind} {a b : Int} (h : a = b) : Ending.returned (.int k a) = .returned (.int k b) := by rw [h]
theorem sl_below_drewN {B : Nat} {w w' : World} (h : Below B w w') (n : Nat) : Below B w (w'.drewN n) := ⟨h.os, h.tape, h.output, h.size, h.block⟩
theorem sl_eql_nil {P : Program} (w : World) (t e : TypeId) (a : Option Addr) (n c n' c' : Nat) (h : P.underlying t = some (.slice e)) :
    (binOp .eql t (.slice a n c) (.slice none n' c')).run P w = .ok (.bool a.isNone) w := by
  simp only [binOp]
  simp [Op.equal, Op.maxDepth, Lib.run_equalIn_slice_nil w 9999 t e a n c n' c' h]
/-- The first place of x; -1 if there is none. -/
def idxI (xs : List Int) (x : Int) : Int := match xs.findIdx? (· == x) with | some i => i | none => -1
theorem idxI_nonneg (xs : List Int) (x : Int) : decide (0 ≤ idxI xs x) = xs.contains x := by
  unfold idxI
  rw [Bool.eq_iff_iff]
  cases h : xs.findIdx? (· == x) with
  | none =>
    rw [List.findIdx?_eq_none_iff] at h
    simp
    intro hx
    have := h x hx
    simp at this
  | some i =>
    obtain ⟨hi, h1, _⟩ := List.findIdx?_eq_some_iff_getElem.1 h
    simp at h1 ⊢
    exact h1 ▸ List.getElem_mem hi
theorem idxI_at {xs : List Int} {x : Int} {k : Nat} (hk : k < xs.length) (h : xs.getD k 0 = x) (hn : ∀ j, j < k → xs.getD j 0 ≠ x) : idxI xs x = k := by
  unfold idxI
  have : xs.findIdx? (· == x) = some k := by
    rw [List.findIdx?_eq_some_iff_getElem]
    refine ⟨hk, by simpa [List.getD, List.getElem?_eq_getElem hk] using h, fun j hj => ?_⟩
    have := hn j hj
    simpa [List.getD, List.getElem?_eq_getElem (Nat.lt_trans hj hk)] using this
  rw [this]
theorem idxI_none {xs : List Int} {x : Int} (hn : ∀ j, j < xs.length → xs.getD j 0 ≠ x) : idxI xs x = -1 := by
  unfold idxI
  have : xs.findIdx? (· == x) = none := by
    rw [List.findIdx?_eq_none_iff]
    intro y hy
    obtain ⟨j, hj, rfl⟩ := List.mem_iff_getElem.1 hy
    have := hn j hj
    simpa [List.getD, List.getElem?_eq_getElem hj] using this
  rw [this]
theorem sl_next {p : Nat → Prop} {k : Nat} (h : ∀ j, j < k → p j) (hk : p k) : ∀ j, j < k + 1 → p j := fun j hj => by
  rcases Nat.lt_or_ge j k with hjk | hjk
  · exact h j hjk
  · obtain rfl : j = k := by omega
    exact hk
/-- A slice of ints that reads as xs (with nothing said of their range). -/
def RD (w : World) (B : Nat) (A : Option Addr) (n : Nat) (xs : List Int) : Prop := Reads w B 1 A n (xs.map (Value.int .i64))
theorem RD.len {w : World} {B n : Nat} {A : Option Addr} {xs : List Int} (h : RD w B A n xs) : xs.length = n := by simpa using h.1
theorem RD.at_ {w : World} {B n i : Nat} {A : Option Addr} {xs : List Int} (h : RD w B A n xs) (hi : i < n) : ∃ b o, A = some ⟨b, o, none⟩ ∧ b < B ∧ w.cell? ⟨b, o + i, none⟩ = some (.int .i64 (xs.getD i 0)) := by
  obtain ⟨b, o, u, e, hb, hx, hc⟩ := Reads.at_ h hi
  have hl : i < xs.length := by rw [h.len]; exact hi
  have hu : u = .int .i64 (xs.getD i 0) := by
    rw [List.getElem?_map, List.getElem?_eq_getElem hl] at hx
    simp [List.getD, List.getElem?_eq_getElem hl]
    simpa using hx.symm
  subst hu
  exact ⟨b, o, e, hb, hc⟩
theorem RD.below' {w w' : World} {B B' n : Nat} {A : Option Addr} {xs : List Int} (h : RD w B A n xs) (hb : Below B' w w') (hB : B ≤ B') : RD w' B A n xs := Reads.below' h hb hB
theorem RD.of_row {w : World} {base : Nat} {e : TypeId} {A : Option Addr} {n c : Nat} {xs : List Int} (h : Row w base e 1 (.slice A n c) n (xs.map (Value.int .i64))) : RD w w.heap.size A n xs := h.reads
theorem RD.of_row' {w : World} {base : Nat} {e : TypeId} {A : Option Addr} {n m c : Nat} {xs : List Int} (h : Row w base e 1 (.slice A n c) m (xs.map (Value.int .i64))) : RD w w.heap.size A n xs := by
  obtain ⟨A', c', e1, _, _⟩ := h.shape
  injection e1 with _ e2 _
  subst e2
  exact h.reads
theorem pr_lt_cell {w : World} {g o : Nat} {u : Value} (h : w.cell? ⟨g, o, none⟩ = some u) : g < w.heap.size := by
  rcases Nat.lt_or_ge g w.heap.size with h' | h'
  · exact h'
  · simp [World.cell?, Array.getElem?_eq_none h'] at h
/-- F is a closure that asks whether its argument is t, which lies at block q. -/
def Asks (F : FuncId) (q : Nat) (t : Int) : Prop := ∀ (x : Int) (W : World), W.cell? ⟨q, 0, none⟩ = some (.int .i64 t) → Calls Try.prog F #[.int .i64 x, .pointer (some ⟨q, 0, none⟩)] W fun e W' => e = .returned (.bool (x == t)) ∧ W = W'
theorem asks36 (q : Nat) (t : Int) : Asks 36 q t := fun x W h => by
  go_enter Try.func36, Try.ntmps36
  go_wp2
  go_ret
  exact ⟨rfl, rfl⟩
set_option maxRecDepth 100000 in
theorem indexFunc36 (q : Nat) (t : Int) (A : Option Addr) (n c : Nat) (xs : List Int) (w : World) (B : Nat) (h : RD w B A n xs) (hn : n ≤ 9223372036854775807) (hq : w.cell? ⟨q, 0, none⟩ = some (.int .i64 t)) :
    Calls Try.prog 38 #[.slice A n c, .func (.func 36) #[] #[.pointer (some ⟨q, 0, none⟩)]] w fun e w' => e = .returned (.int .i64 (idxI xs t)) ∧ w = w' := by
  have HL := Lib.hid h.len
  go_enter Try.func38, Try.ntmps38
  go_wp2
  go_loop [8] (fun i => ∃ k : Nat, k ≤ n ∧ i = .int .i64 k ∧ Hid (∀ j, j < k → xs.getD j 0 ≠ t)) (fun i => n - (intOf i).toNat)
  case atStart => exact ⟨0, by omega, rfl, Lib.hid (fun j hj => by omega)⟩
  case round =>
    obtain ⟨k, hk, rfl, hno⟩ := hrel
    by_cases hlt : k < n
    · obtain ⟨b, o, rfl, hb, hc⟩ := h.at_ hlt
      have hkn : (k : Int) < n := by omega
      have hY := Lib.hid (fun y => idxI_at (xs := xs) (x := t) (k := k) (by rw [HL.out]; exact hlt) y hno.out)
      have hN := Lib.hid (fun y => sl_next (p := fun j => xs.getD j 0 ≠ t) hno.out y)
      generalize xs.getD k 0 = y at *
      have HF := Lib.hid (asks36 q t y w hq)
      by_cases hqe : y = t
      · have d : (y == t) = true := by simpa using hqe
        have hr := Lib.hid (hY.out hqe)
        rw [d] at HF
        clear hqe
        go_wp2_with fail
        refine HF.out.mono ?_
        rintro e w' ⟨rfl, rfl⟩
        go_wp2
        go_ret
        exact ⟨sl_int hr.out.symm, rfl⟩
      · have d : (y == t) = false := by simpa using hqe
        rw [d] at HF
        go_wp2_with fail
        refine HF.out.mono ?_
        rintro e w' ⟨rfl, rfl⟩
        go_wp2
        go_round
        case rel => exact ⟨k + 1, by omega, by go_num, Lib.hid (hN.out hqe)⟩
        case measure => simp [intOf]; omega
    · obtain rfl : k = n := by omega
      go_wp2
      go_ret
      exact ⟨sl_int (idxI_none (by rw [HL.out]; exact hno.out)).symm, rfl⟩
/-- The list without t. -/
def without (xs : List Int) (t : Int) : List Int := xs.filter (· != t)
theorem without_none {xs : List Int} {t : Int} (h : idxI xs t = -1) : without xs t = xs := by
  unfold without
  rw [List.filter_eq_self]
  intro y hy
  have := idxI_nonneg xs t
  rw [h] at this
  simp at this
  simp
  rintro rfl
  exact this hy
theorem idxI_some {xs : List Int} {t : Int} (h : idxI xs t ≠ -1) : ∃ i : Nat, idxI xs t = i ∧ i < xs.length ∧ (xs.take (i + 1)).filter (· != t) = xs.take i := by
  unfold idxI at h ⊢
  cases hq : xs.findIdx? (· == t) with
  | none => rw [hq] at h; exact absurd rfl h
  | some i =>
    obtain ⟨hi, h1, h2⟩ := List.findIdx?_eq_some_iff_getElem.1 hq
    refine ⟨i, rfl, hi, ?_⟩
    rw [List.take_succ_eq_append_getElem hi, List.filter_append]
    have e1 : (xs.take i).filter (· != t) = xs.take i := by
      rw [List.filter_eq_self]
      intro y hy
      obtain ⟨j, hj, rfl⟩ := List.mem_iff_getElem.1 hy
      rw [List.length_take] at hj
      have := h2 j (by omega)
      simpa using this
    rw [e1]
    simp at h1
    simp [h1]
def DelFPost (w : World) (B : Nat) (A : Option Addr) (c : Nat) (ys : List Int) (e : Ending) (w' : World) : Prop :=
  e = .returned (.slice A ys.length c) ∧ Row w' B 3 1 (.slice A ys.length c) ys.length (ys.map (Value.int .i64)) ∧ Fr (fun k => (Value.slice A 0 0).ownBlock = some k) w w'
theorem pr_slice {A : Option Addr} {a b c : Nat} (h : a = b) : Ending.returned (.slice A a c) = .returned (.slice A b c) := by rw [h]
theorem pr_own {A : Option Addr} {n c n' c' : Nat} : (Value.slice A n c).ownBlock = (Value.slice A n' c').ownBlock := by cases A <;> rfl
set_option maxHeartbeats 1000000 in
set_option maxRecDepth 100000 in
theorem deleteFunc36 (q : Nat) (t : Int) (A : Option Addr) (n c : Nat) (xs : List Int) (w : World) (B : Nat) (h : Row w B 3 1 (.slice A n c) n (xs.map (Value.int .i64))) (hq : w.cell? ⟨q, 0, none⟩ = some (.int .i64 t)) (hqo : (Value.slice A n c).ownBlock ≠ some q) :
    Calls Try.prog 35 #[.slice A n c, .func (.func 36) #[] #[.pointer (some ⟨q, 0, none⟩)]] w (DelFPost w B A c (without xs t)) := by
  obtain ⟨hnc, hcm⟩ : n ≤ c ∧ c ≤ maxLen := by
    obtain ⟨A', c', e0, h1, h2⟩ := h.shape
    injection e0 with e1 _ e2
    subst e2
    exact ⟨h1, h2⟩
  unfold maxLen at hcm
  have hlen : xs.length = n := by simpa using h.1
  have HL := Lib.hid hlen
  have HI := Lib.hid (indexFunc36 q t A n c xs w _ (RD.of_row h) (by omega) hq)
  by_cases hi : idxI xs t = -1
  · have HW := Lib.hid (without_none hi)
    rw [hi] at HI
    clear hi
    go_enter Try.func35, Try.ntmps35
    go_wp2_with fail
    refine HI.out.mono ?_
    rintro e w' ⟨rfl, rfl⟩
    go_wp2
    go_ret
    exact ⟨pr_slice (by rw [HW.out, HL.out]), by rw [HW.out, HL.out]; exact h, Fr.refl _ _⟩
  · obtain ⟨i0, hi0, hil, hit⟩ := idxI_some hi
    rw [hi0] at HI
    have HT := Lib.hid hit
    rw [hlen] at hil
    obtain ⟨g, o, rfl, hBg⟩ : ∃ g o, A = some ⟨g, o, none⟩ ∧ B ≤ g := by
      rcases h.2 with ⟨_, h0⟩ | ⟨g, o, cap, cur, e1, hBg, _⟩
      · omega
      · injection e1 with e1
        exact ⟨g, o, e1, hBg⟩
    clear hi hi0 hit
    have hqg : ¬ g = q := fun e => hqo (by simp [Value.ownBlock, e])
    have hqg' : ¬ q = g := fun e => hqg e.symm
    have hm1 : ((i0 : Int) == -1) = false := by simp <;> omega
    have hz3 : ∀ w, (zeroValue 3).run Try.prog w = .ok (.int .i64 0) w := fun w => by kernel_rfl
    go_enter Try.func35, Try.ntmps35
    go_wp2_with fail
    refine HI.out.mono ?_
    rintro e w' ⟨rfl, rfl⟩
    go_wp2
    go_loopw [5, 6] (fun a b wr => ∃ (i j : Nat) (L : List Int), i < j ∧ j ≤ n ∧ a = .int .i64 i ∧ b = .int .i64 j ∧ Hid (L.length = n ∧ L.take i = (xs.take j).filter (· != t) ∧ L.drop j = xs.drop j) ∧ Row wr B 3 1 (.slice (some ⟨g, o, none⟩) n c) n (L.map (Value.int .i64)) ∧ Fr (fun k => k = g) w wr) (fun _ b _ => n - (intOf b).toNat)
    case atStart => exact ⟨i0, i0 + 1, xs, by omega, by omega, rfl, by go_num, Lib.hid ⟨HL.out, HT.out.symm, rfl⟩, h, Fr.refl _ _⟩
    case round =>
      obtain ⟨i, j, L, hij, hj, rfl, rfl, HH, hr, hf⟩ := hrel
      have hqr : wr.cell? ⟨q, 0, none⟩ = some (.int .i64 t) := (hf.cell (p := ⟨q, 0, none⟩) (pr_lt_cell hq) hqg').trans hq
      obtain ⟨hLl, hLt, hLd⟩ := HH.out
      by_cases hlt : j < n
      · obtain ⟨b, o', e9, hb, hc⟩ := (RD.of_row hr).at_ hlt
        injection e9 with e9
        injection e9 with e1 e2
        subst e1; subst e2
        have hy : L.getD j 0 = xs.getD j 0 := by
          have := congrArg (fun l => l.getD 0 0) hLd
          simpa [List.getD] using this
        have hjx : j < xs.length := by rw [HL.out]; exact hlt
        have hxj : (xs.take (j + 1)).filter (· != t) = (xs.take j).filter (· != t) ++ (if (xs.getD j 0 == t) = true then [] else [xs.getD j 0]) := by
          rw [List.take_succ_eq_append_getElem hjx, List.filter_append]
          have : xs.getD j 0 = xs[j] := by simp [List.getD, List.getElem?_eq_getElem hjx]
          rw [this]
          by_cases h' : xs[j] = t <;> simp [h']
        have hxd : L.drop (j + 1) = xs.drop (j + 1) := by
          have := congrArg (fun l => l.drop 1) hLd
          simpa [Nat.add_comm] using this
        rw [hy] at hc
        have HXJ := Lib.hid hxj
        have HXD := Lib.hid hxd
        have HLL := Lib.hid hLl
        have HLT := Lib.hid hLt
        have hir := hr.stored (j := i) (by omega) (.int .i64 (xs.getD j 0))
        rw [← List.map_set] at hir
        have hif := hf.setCell (p := ⟨g, o + i, none⟩) (fun _ => rfl) (.int .i64 (xs.getD j 0))
        obtain ⟨_, _, e9, _, hci⟩ := (RD.of_row hr).at_ (i := i) (by omega)
        injection e9 with e9
        injection e9 with e1 e2
        subst e1; subst e2
        have hfz : ∀ k, wr.frozen? ⟨g, k, none⟩ = false := by
          rcases hr.2 with ⟨e1, _⟩ | ⟨g', o'', cap, cur, e1, _, hg, _⟩
          · injection e1 with e1; cases e1
          · injection e1 with e1; injection e1 with e1; injection e1 with e1 _
            subst e1
            exact fun k => Blk.free (w := wr) hg k
        have hfi := hfz (o + i)
        have HF := Lib.hid (asks36 q t (xs.getD j 0) wr hqr)
        generalize xs.getD j 0 = y at *
        by_cases hyt : y = t
        · have d : (y == t) = true := by simpa using hyt
          rw [d, if_pos rfl, List.append_nil] at HXJ
          rw [d] at HF
          clear hyt hxj hy hir hif hLl hLt hLd hxd HH hfz
          go_wp2_with fail
          refine HF.out.mono ?_
          rintro e w' ⟨rfl, rfl⟩
          go_wp2
          go_roundw
          case rel => exact ⟨i, j + 1, L, by omega, by omega, rfl, by go_num, Lib.hid ⟨HLL.out, by rw [HXJ.out]; exact HLT.out, HXD.out⟩, hr, hf⟩
          case measure => simp [intOf]; omega
        · have d : (y == t) = false := by simpa using hyt
          rw [d, if_neg (by simp)] at HXJ
          rw [d] at HF
          have HS : Hid ((L.set i y).take (i + 1) = L.take i ++ [y]) := Lib.hid (by
            have hiL : i < L.length := by rw [hLl]; omega
            rw [List.take_succ_eq_append_getElem (by simpa using hiL), List.getElem_set_self, List.take_set, List.set_eq_of_length_le (by rw [List.length_take]; omega)])
          have HD : Hid ((L.set i y).drop (j + 1) = L.drop (j + 1)) := Lib.hid (by
            rw [List.drop_set, if_pos (by omega)])
          have HIR := Lib.hid hir
          have HIF := Lib.hid hif
          clear hyt hxj hy hir hif hLl hLt hLd hxd HH hfz hr hf
          go_wp2_with fail
          refine HF.out.mono ?_
          rintro e w' ⟨rfl, rfl⟩
          go_wp2
          go_roundw
          case rel => exact ⟨i + 1, j + 1, L.set i y, by omega, by omega, by go_num, by go_num, Lib.hid ⟨by rw [List.length_set]; exact HLL.out, by rw [HS.out, HXJ.out, HLT.out], by rw [HD.out]; exact HXD.out⟩, HIR.out, HIF.out⟩
          case measure => simp [intOf]; omega
      · obtain rfl : j = n := by omega
        have hall : L.take i = without xs t := by
          rw [hLt]; unfold without
          rw [List.take_of_length_le (by rw [HL.out]; exact Nat.le_refl _)]
        have hlw : (without xs t).length = i := by rw [← hall, List.length_take]; omega
        have hri := hr.take (k := i) (by omega)
        rw [Nat.mul_one, ← List.map_take, hall] at hri
        obtain ⟨w9, hrun, hr9, hg9⟩ := run_clear_row (P := Try.prog) wr B 49 3 (.int .i64 0) 1 Try.underlying49 hz3 rfl (by decide) (by simp [Value.cells, Value.oneCell']) g o i c (j - i) (c - i) ((without xs t).map (Value.int .i64)) hri (by omega) (by omega)
        rw [Nat.mul_one] at hrun
        have hfin : Hid (Fr (fun k => k = g) w w9) := Lib.hid (hf.grown hg9 (fun k e _ => by injection e with e; exact e.symm))
        have q4 : ¬ c = i := by omega
        have q5 : (i : Int) ≤ j := by omega
        have q6 : (i : Int) ≤ c := by omega
        have q7 : i ≤ j := by omega
        have q8 : i ≤ c := by omega
        have HLW := Lib.hid hlw
        clear hLl hLt hLd hall hlw HH hri hg9 hr hf
        go_wp2
        go_ret
        exact ⟨pr_slice HLW.out.symm, by rw [HLW.out]; exact hr9, hfin.out.mono (fun k _ e => by simp [Value.ownBlock, e])⟩
end Go.Proofs.Ytmoanemhjcdjkaa
