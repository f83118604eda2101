/- Who waits already (grace.call and the law's own call), and contracts of slices.ContainsFunc with the two closures. -/
import Derived.Test.YtjcbnanajelpjaaGrA
namespace Go.Proofs.Ytjcbnanajelpjaa
open Go.RowKit
set_option maxHeartbeats 400000
set_option linter.unusedVariables false
set_option linter.unusedSimpArgs false
theorem lt_cell {w : World} {g o : Nat} {u : Value} (h : w.cell? ⟨g, o, none⟩ = some u) : g < w.heap.size := by
  rcases Nat.lt_or_ge g w.heap.size with h' | h'
  · exact h'
  · simp [World.cell?, Array.getElem?_eq_none h'] at h
def GC.zero : GC := ⟨0, fun _ => 0⟩
/-- The law's own call. -/
structure LC where
  id : Int
  b : Nat → Bool
def LC.cells (c : LC) : List Value := [.int .i64 c.id, .bool (c.b 0), .bool (c.b 1), .bool (c.b 2), .bool (c.b 3)]
def LC.zero : LC := ⟨0, fun _ => false⟩
set_option maxRecDepth 100000 in
theorem clo75 (c : GC) (x : Int) (g : Nat) (w : World) (hc : w.cell? ⟨g, 0, none⟩ = some (.int .i64 x)) :
    Calls Try.prog 75 #[.agg #[.int .i64 c.id, .int .i64 (c.w 0), .int .i64 (c.w 1), .int .i64 (c.w 2), .int .i64 (c.w 3)], .pointer (some ⟨g, 0, none⟩)] w fun e w' => e = .returned (.bool (c.id == x)) ∧ Below w.heap.size w w' := by
  have hlt := lt_cell hc
  have hne : ¬ g = w.heap.size := by omega
  go_enter Try.func75, Try.ntmps75
  go_wp2
  go_ret
  exact ⟨rfl, (Below.refl _ _).alloc (Nat.le_refl _) _⟩
def GC.has (cs : List GC) (x : Int) : Bool := cs.any fun c => c.id == x
theorem GC.has_take (cs : List GC) (x : Int) (k : Nat) (h : k < cs.length) : GC.has (cs.take (k + 1)) x = (GC.has (cs.take k) x || ((cs.getD k GC.zero).id == x)) := by
  unfold GC.has
  rw [List.take_succ_eq_append_getElem h, List.any_append]
  simp [List.getD, List.getElem?_eq_getElem h]
theorem GC.has_of (cs : List GC) (x : Int) (k : Nat) (h : k < cs.length) (hp : (cs.getD k GC.zero).id = x) : GC.has cs x = true := by
  unfold GC.has
  rw [List.any_eq_true]
  refine ⟨cs[k], List.getElem_mem h, ?_⟩
  simpa [List.getD, List.getElem?_eq_getElem h] using hp
def GC.IdxPost (cs : List GC) (x : Int) (w : World) (e : Ending) (w' : World) : Prop := (∃ k : Int, e = .returned (.int .i64 k) ∧ decide (0 ≤ k) = GC.has cs x) ∧ Below w.heap.size w w'
theorem GC.at_ {w : World} {B n i : Nat} {A : Option Addr} {cs : List GC} (h : RS GC.cells 5 w B A n cs) (hi : i < n) : ∃ b o, A = some ⟨b, o, none⟩ ∧ b < B ∧ ∀ j u, (GC.cells (cs.getD i GC.zero))[j]? = some u → w.cell? ⟨b, o + i * 5 + j, none⟩ = some u := by
  obtain ⟨b, o, e, hb, _, hc⟩ := RS.at_ (cl := GC.cells) (s := 5) (fun _ => rfl) GC.zero h hi
  exact ⟨b, o, e, hb, hc⟩
set_option maxRecDepth 100000 in
theorem idx79 (x : Int) (g : Nat) (A : Option Addr) (n c : Nat) (cs : List GC) (w : World) (B : Nat) (h : RS GC.cells 5 w B A n cs) (hB : B ≤ w.heap.size) (hn : n ≤ 9223372036854775807) (hc : w.cell? ⟨g, 0, none⟩ = some (.int .i64 x)) :
    Calls Try.prog 79 #[.slice A n c, .func (.func 75) #[] #[.pointer (some ⟨g, 0, none⟩)]] w (GC.IdxPost cs x w) := by
  have HL := Lib.hid h.2
  have hgl := lt_cell hc
  go_enter Try.func79, Try.ntmps79
  go_wp2
  go_loopw [8] (fun i wr => ∃ k : Nat, k ≤ n ∧ i = .int .i64 k ∧ Hid (GC.has (cs.take k) x = false) ∧ Below w.heap.size w wr) (fun i _ => n - (intOf i).toNat)
  case atStart => exact ⟨0, by omega, rfl, Lib.hid rfl, Below.refl _ _⟩
  case round =>
    obtain ⟨k, hk, rfl, HF, hbw⟩ := hrel
    have hcr : wr.cell? ⟨g, 0, none⟩ = some (.int .i64 x) := (hbw.cell (p := ⟨g, 0, none⟩) hgl).trans hc
    by_cases hlt : k < n
    · obtain ⟨b, o, rfl, hb, hcell⟩ := GC.at_ (h.below' hbw hB) hlt
      have c0 := hcell 0 _ rfl
      have c1 := hcell 1 _ rfl
      have c2 := hcell 2 _ rfl
      have c3 := hcell 3 _ rfl
      have c4 := hcell 4 _ rfl
      rw [Nat.add_zero] at c0
      have hT := Lib.hid (GC.has_take cs x k (by rw [HL.out]; exact hlt))
      have hO := Lib.hid (GC.has_of cs x k (by rw [HL.out]; exact hlt))
      clear hcell
      generalize cs.getD k GC.zero = y at *
      by_cases hp : y.id = x
      · have d : (y.id == x) = true := by simpa using hp
        have hO2 := Lib.hid (hO.out hp)
        clear hp
        go_wp2_with (go_at_call 75; refine (clo75 y x g _ hcr).mono ?_; rintro e w1 ⟨rfl, hb1⟩)
        go_ret
        exact ⟨⟨(k : Int), rfl, by rw [hO2.out]; simp⟩, hbw.trans (hb1.mono hbw.size)⟩
      · have d : (y.id == x) = false := by simpa using hp
        go_wp2_with (go_at_call 75; refine (clo75 y x g _ hcr).mono ?_; rintro e w1 ⟨rfl, hb1⟩)
        go_roundw
        case rel => exact ⟨k + 1, by omega, by go_num, Lib.hid (by rw [hT.out, HF.out, d]; rfl), hbw.trans (hb1.mono hbw.size)⟩
        case measure => simp [intOf]; omega
    · obtain rfl : k = n := by omega
      rw [List.take_of_length_le (by rw [HL.out]; omega)] at HF
      go_wp2
      go_ret
      exact ⟨⟨-1, rfl, by rw [HF.out]; rfl⟩, hbw⟩
theorem has74 {q : Bool} (x : Int) (g : Nat) (A : Option Addr) (n c : Nat) (cs : List GC) (w : World) (B : Nat) (h : RS GC.cells 5 w B A n cs) (hB : B ≤ w.heap.size) (hn : n ≤ 9223372036854775807) (hc : w.cell? ⟨g, 0, none⟩ = some (.int .i64 x)) (hq : GC.has cs x = q) :
    Calls Try.prog 74 #[.slice A n c, .func (.func 75) #[] #[.pointer (some ⟨g, 0, none⟩)]] w fun e w' => e = .returned (.bool q) ∧ Below w.heap.size w w' := by
  have HQ := Lib.hid hq
  clear hq
  go_enter Try.func74, Try.ntmps74
  go_wp2_with fail
  refine (idx79 x g A n c cs _ B h hB hn hc).mono ?_
  rintro e w1 ⟨⟨k, rfl, hk⟩, hb⟩
  rw [HQ.out] at hk
  go_wp2
  go_ret
  exact ⟨rfl, hb⟩
set_option maxRecDepth 100000 in
theorem clo62 (c : LC) (x : Int) (g : Nat) (w : World) (hc : w.cell? ⟨g, 0, none⟩ = some (.int .i64 x)) :
    Calls Try.prog 62 #[.agg #[.int .i64 c.id, .bool (c.b 0), .bool (c.b 1), .bool (c.b 2), .bool (c.b 3)], .pointer (some ⟨g, 0, none⟩)] w fun e w' => e = .returned (.bool (c.id == x)) ∧ Below w.heap.size w w' := by
  have hlt := lt_cell hc
  have hne : ¬ g = w.heap.size := by omega
  go_enter Try.func62, Try.ntmps62
  go_wp2
  go_ret
  exact ⟨rfl, (Below.refl _ _).alloc (Nat.le_refl _) _⟩
def LC.has (cs : List LC) (x : Int) : Bool := cs.any fun c => c.id == x
theorem LC.has_take (cs : List LC) (x : Int) (k : Nat) (h : k < cs.length) : LC.has (cs.take (k + 1)) x = (LC.has (cs.take k) x || ((cs.getD k LC.zero).id == x)) := by
  unfold LC.has
  rw [List.take_succ_eq_append_getElem h, List.any_append]
  simp [List.getD, List.getElem?_eq_getElem h]
theorem LC.has_of (cs : List LC) (x : Int) (k : Nat) (h : k < cs.length) (hp : (cs.getD k LC.zero).id = x) : LC.has cs x = true := by
  unfold LC.has
  rw [List.any_eq_true]
  refine ⟨cs[k], List.getElem_mem h, ?_⟩
  simpa [List.getD, List.getElem?_eq_getElem h] using hp
def LC.IdxPost (cs : List LC) (x : Int) (w : World) (e : Ending) (w' : World) : Prop := (∃ k : Int, e = .returned (.int .i64 k) ∧ decide (0 ≤ k) = LC.has cs x) ∧ Below w.heap.size w w'
theorem LC.at_ {w : World} {B n i : Nat} {A : Option Addr} {cs : List LC} (h : RS LC.cells 5 w B A n cs) (hi : i < n) : ∃ b o, A = some ⟨b, o, none⟩ ∧ b < B ∧ ∀ j u, (LC.cells (cs.getD i LC.zero))[j]? = some u → w.cell? ⟨b, o + i * 5 + j, none⟩ = some u := by
  obtain ⟨b, o, e, hb, _, hc⟩ := RS.at_ (cl := LC.cells) (s := 5) (fun _ => rfl) LC.zero h hi
  exact ⟨b, o, e, hb, hc⟩
set_option maxRecDepth 100000 in
theorem idx77 (x : Int) (g : Nat) (A : Option Addr) (n c : Nat) (cs : List LC) (w : World) (B : Nat) (h : RS LC.cells 5 w B A n cs) (hB : B ≤ w.heap.size) (hn : n ≤ 9223372036854775807) (hc : w.cell? ⟨g, 0, none⟩ = some (.int .i64 x)) :
    Calls Try.prog 77 #[.slice A n c, .func (.func 62) #[] #[.pointer (some ⟨g, 0, none⟩)]] w (LC.IdxPost cs x w) := by
  have HL := Lib.hid h.2
  have hgl := lt_cell hc
  go_enter Try.func77, Try.ntmps77
  go_wp2
  go_loopw [8] (fun i wr => ∃ k : Nat, k ≤ n ∧ i = .int .i64 k ∧ Hid (LC.has (cs.take k) x = false) ∧ Below w.heap.size w wr) (fun i _ => n - (intOf i).toNat)
  case atStart => exact ⟨0, by omega, rfl, Lib.hid rfl, Below.refl _ _⟩
  case round =>
    obtain ⟨k, hk, rfl, HF, hbw⟩ := hrel
    have hcr : wr.cell? ⟨g, 0, none⟩ = some (.int .i64 x) := (hbw.cell (p := ⟨g, 0, none⟩) hgl).trans hc
    by_cases hlt : k < n
    · obtain ⟨b, o, rfl, hb, hcell⟩ := LC.at_ (h.below' hbw hB) hlt
      have c0 := hcell 0 _ rfl
      have c1 := hcell 1 _ rfl
      have c2 := hcell 2 _ rfl
      have c3 := hcell 3 _ rfl
      have c4 := hcell 4 _ rfl
      rw [Nat.add_zero] at c0
      have hT := Lib.hid (LC.has_take cs x k (by rw [HL.out]; exact hlt))
      have hO := Lib.hid (LC.has_of cs x k (by rw [HL.out]; exact hlt))
      clear hcell
      generalize cs.getD k LC.zero = y at *
      by_cases hp : y.id = x
      · have d : (y.id == x) = true := by simpa using hp
        have hO2 := Lib.hid (hO.out hp)
        clear hp
        go_wp2_with (go_at_call 62; refine (clo62 y x g _ hcr).mono ?_; rintro e w1 ⟨rfl, hb1⟩)
        go_ret
        exact ⟨⟨(k : Int), rfl, by rw [hO2.out]; simp⟩, hbw.trans (hb1.mono hbw.size)⟩
      · have d : (y.id == x) = false := by simpa using hp
        go_wp2_with (go_at_call 62; refine (clo62 y x g _ hcr).mono ?_; rintro e w1 ⟨rfl, hb1⟩)
        go_roundw
        case rel => exact ⟨k + 1, by omega, by go_num, Lib.hid (by rw [hT.out, HF.out, d]; rfl), hbw.trans (hb1.mono hbw.size)⟩
        case measure => simp [intOf]; omega
    · obtain rfl : k = n := by omega
      rw [List.take_of_length_le (by rw [HL.out]; omega)] at HF
      go_wp2
      go_ret
      exact ⟨⟨-1, rfl, by rw [HF.out]; rfl⟩, hbw⟩
theorem has61 {q : Bool} (x : Int) (g : Nat) (A : Option Addr) (n c : Nat) (cs : List LC) (w : World) (B : Nat) (h : RS LC.cells 5 w B A n cs) (hB : B ≤ w.heap.size) (hn : n ≤ 9223372036854775807) (hc : w.cell? ⟨g, 0, none⟩ = some (.int .i64 x)) (hq : LC.has cs x = q) :
    Calls Try.prog 61 #[.slice A n c, .func (.func 62) #[] #[.pointer (some ⟨g, 0, none⟩)]] w fun e w' => e = .returned (.bool q) ∧ Below w.heap.size w w' := by
  have HQ := Lib.hid hq
  clear hq
  go_enter Try.func61, Try.ntmps61
  go_wp2_with fail
  refine (idx77 x g A n c cs _ B h hB hn hc).mono ?_
  rintro e w1 ⟨⟨k, rfl, hk⟩, hb⟩
  rw [HQ.out] at hk
  go_wp2
  go_ret
  exact ⟨rfl, hb⟩
end Go.Proofs.Ytjcbnanajelpjaa
