/- The reference's pipes: at, who, Told. -/
import Derived.Test.YthlhjaacjhlkhaaPpG
namespace Go.Proofs.Ythlhjaacjhlkhaa
open Go.RowKit
set_option maxHeartbeats 400000
set_option linter.unusedVariables false
set_option linter.unusedSimpArgs false
def Pr.cells (x : Pr) : List Value := [.int .i64 x.id, .int .i64 x.r, .int .i64 x.w, .string (strOfNums x.s)]
/-- The list in memory. -/
def RQ (w : World) (B : Nat) (A : Option Addr) (n : Nat) (F : Fs) : Prop := RS Pr.cells 4 w B A n (allR F)
theorem RQ.below' {w w' : World} {B B' n : Nat} {A : Option Addr} {F : Fs} (h : RQ w B A n F) (hb : Below B' w w') (hB : B ≤ B') : RQ w' B A n F := RS.below' h hb hB
theorem RQ.len {w : World} {B n : Nat} {A : Option Addr} {F : Fs} (h : RQ w B A n F) : (allR F).length = n ∧ n ≤ 16 := by
  have h1 : (allR F).length = n := h.2
  have h2 := recs_len F 0 16
  exact ⟨h1, by unfold allR at h1; omega⟩
theorem RQ.at_ {w : World} {B n k : Nat} {A : Option Addr} {F : Fs} (h : RQ w B A n F) (hk : k < n) : ∃ b o, A = some ⟨b, o, none⟩ ∧ b < B ∧ w.cell? ⟨b, o + k * 4, none⟩ = some (.int .i64 ((allR F).getD k Pr.zero).id) ∧ w.cell? ⟨b, o + k * 4 + 1, none⟩ = some (.int .i64 ((allR F).getD k Pr.zero).r) ∧ w.cell? ⟨b, o + k * 4 + 2, none⟩ = some (.int .i64 ((allR F).getD k Pr.zero).w) ∧ w.cell? ⟨b, o + k * 4 + 3, none⟩ = some (.string (strOfNums ((allR F).getD k Pr.zero).s)) := by
  obtain ⟨b, o, e, hb, hm, hc⟩ := RS.at_ (cl := Pr.cells) (s := 4) (fun _ => rfl) Pr.zero h hk
  exact ⟨b, o, e, hb, hc 0 _ rfl, hc 1 _ rfl, hc 2 _ rfl, hc 3 _ rfl⟩
theorem place_some {F : Fs} {i : Nat} {p : Pp} (hi : i < 16) (hp : F i = some p) : place F ((i : Int) + 1) = ((lo F i).length : Nat) ∧ (lo F i).length < (allR F).length ∧ (allR F).getD (lo F i).length Pr.zero = prOf i p := by
  have ha : at1 F ((i : Int) + 1) = some p := (at1_of hi).trans hp
  refine ⟨?_, ?_, ?_⟩
  · unfold place
    rw [ha, show ((i : Int) + 1 - 1).toNat = i by omega]
    rfl
  · rw [all_some hi hp]; simp
  · rw [all_some hi hp, List.getD_eq_getElem?_getD, List.getElem?_append_right (Nat.le_refl _)]; simp
theorem place_less {F : Fs} {id : Int} (h : at1 F id = none) : place F id = -1 := by unfold place; rw [h]; rfl
set_option maxRecDepth 100000 in
theorem at_any (w : World) (BB : Nat) (A : Option Addr) (n c : Nat) (F : Fs) (id : Int) (h : RQ w BB A n F) (hB : BB ≤ w.heap.size) : Calls Try.prog 87 #[.slice A n c, .int .i64 id] w (RetV w (.int .i64 (place F id))) := by
  obtain ⟨hl, hn⟩ := h.len
  have HL := Lib.hid hl
  clear hl
  go_enter Try.func87, Try.ntmps87
  go_wp2_with fail
  go_loopw [9] (fun x wr => ∃ k : Nat, x = .int .i64 k ∧ k ≤ n ∧ (∀ j : Nat, j < k → ((allR F).getD j Pr.zero).id ≠ id) ∧ Below w.heap.size w wr) (fun x _ => n - (intOf x).toNat)
  case atStart => exact ⟨0, rfl, by omega, fun j hj => by omega, Below.refl _ _⟩
  case round =>
    obtain ⟨k, rfl, hk, hg, hb⟩ := hrel
    have HG := Lib.hid hg
    have HB := Lib.hid hb
    clear hg hb
    by_cases hlt : k < n
    · obtain ⟨b, o, rfl, hbB, c0, c1, c2, c3⟩ := (h.below' HB.out hB).at_ hlt
      have hkn : (k : Int) < n := by omega
      have hbw : b < wr.heap.size := by have := HB.out.size; omega
      have HPL := Lib.hid (place_at (F := F) (id := id) (k := k) (by rw [HL.out]; exact hlt))
      obtain ⟨x, hx⟩ : ∃ x, (allR F).getD k Pr.zero = x := ⟨_, rfl⟩
      rw [hx] at c0 c1 c2 c3 HPL
      have HX := Lib.hid hx
      clear hx
      have HB2 : Hid (Below w.heap.size w (wr.alloc (.cells #[.int .i64 x.id, .int .i64 x.r, .int .i64 x.w, .string (strOfNums x.s)] 59))) := Lib.hid (HB.out.alloc HB.out.size _)
      by_cases hid : x.id = id
      · have HE : Hid (place F id = k) := Lib.hid (HPL.out hid HG.out)
        subst hid
        go_wp2
        go_ret
        exact ⟨by rw [HE.out]; rfl, HB2.out⟩
      · have hd : (x.id == id) = false := by simpa using hid
        have HID := Lib.hid hid
        clear hid
        go_wp2
        go_roundw
        case rel => exact ⟨k + 1, by go_num, by omega, fun j hj => by
          rcases (by omega : j < k ∨ j = k) with h | rfl
          · exact HG.out j h
          · rw [HX.out]; exact HID.out, HB2.out⟩
        case measure => simp [intOf]; omega
    · obtain rfl : k = n := by omega
      have HE : Hid (place F id = -1) := Lib.hid (place_none (fun x hx => by
        obtain ⟨j, hj, rfl⟩ := List.getElem_of_mem hx
        have := HG.out j (by rw [← HL.out]; exact hj)
        simpa [List.getD_eq_getElem?_getD, List.getElem?_eq_getElem hj] using this))
      go_wp2
      go_ret
      exact ⟨by rw [HE.out]; rfl, HB.out⟩
/-- 'who': the place, how many, which error. -/
def whoV (F : Fs) (id e : Int) : Value := if errE F id e ≠ 0 then .tuple #[.int .i64 0, .int .i64 0, .int .i64 (errE F id e)] else match at1 F id with | none => .tuple #[] | some p => .tuple #[.int .i64 ((lo F (id - 1).toNat).length : Nat), .int .i64 (p.at_ e), .int .i64 0]
set_option maxHeartbeats 1000000 in
set_option maxRecDepth 100000 in
theorem who_any (w : World) (BB : Nat) (A : Option Addr) (n c : Nat) (F : Fs) (id e : Int) (h : RQ w BB A n F) (hB : BB ≤ w.heap.size) : Calls Try.prog 89 #[.slice A n c, .int .i64 id, .int .i64 e] w (RetV w (whoV F id e)) := by
  have HA := Lib.hid (at_any w BB A n c F id h hB)
  by_cases he : e ≠ 0 ∧ e ≠ 1
  · have HV : Hid (whoV F id e = .tuple #[.int .i64 0, .int .i64 0, .int .i64 1]) := Lib.hid (by
      have : errE F id e = 1 := by unfold errE; rw [if_pos he]
      unfold whoV; rw [this]; rfl)
    clear h
    go_enter Try.func89, Try.ntmps89
    rcases (by omega : e < 0 ∨ 1 < e) with h1 | h1
    · have hd : decide (e < 0) = true := by simpa using h1
      go_wp2
      exact bodyPost_ret (v := .tuple #[.int .i64 0, .int .i64 0, .int .i64 1]) (by simp [results, Try.results89, go_sem]) rfl (retv HV.out (Below.refl _ _))
    · have hd : decide (e < 0) = false := by simp; omega
      have hd2 : decide ((1 : Int) < e) = true := by simpa using h1
      go_wp2
      exact bodyPost_ret (v := .tuple #[.int .i64 0, .int .i64 0, .int .i64 1]) (by simp [results, Try.results89, go_sem]) rfl (retv HV.out (Below.refl _ _))
  · cases ha : at1 F id with
    | none =>
      rw [place_less ha] at HA
      have HV : Hid (whoV F id e = .tuple #[.int .i64 0, .int .i64 0, .int .i64 4]) := Lib.hid (by
        have : errE F id e = 4 := by unfold errE; rw [if_neg he, ha]
        unfold whoV; rw [this]; rfl)
      clear h ha
      rcases (by omega : e = 0 ∨ e = 1) with rfl | rfl
      all_goals
        go_enter Try.func89, Try.ntmps89
        go_wp2_with fail
        refine HA.out.mono ?_
        rintro x w1 ⟨rfl, hb1⟩
        go_wp2
        exact bodyPost_ret (v := .tuple #[.int .i64 0, .int .i64 0, .int .i64 4]) (by simp [results, Try.results89, go_sem]) rfl (retv HV.out hb1)
    | some p =>
    obtain ⟨i, hi, rfl, hp⟩ := at1_some ha
    obtain ⟨p1, p2, p3⟩ := place_some hi hp
    have hlen := h.len
    rw [hlen.1] at p2
    obtain ⟨z, hzz⟩ : ∃ z, (lo F i).length = z := ⟨_, rfl⟩
    rw [hzz] at p1 p2 p3
    rw [p1] at HA
    obtain ⟨b, o, rfl, hb, -, c1, c2, -⟩ := h.at_ p2
    rw [p3] at c1 c2
    dsimp only [prOf] at c1 c2
    have hbW : b < w.heap.size := by omega
    have hzn : (z : Int) < n := by omega
    rcases (by omega : e = 0 ∨ e = 1) with rfl | rfl
    · by_cases hz : p.r = 0
      · have HV : Hid (whoV F ((i : Int) + 1) 0 = .tuple #[.int .i64 0, .int .i64 0, .int .i64 8]) := Lib.hid (by
          have : errE F ((i : Int) + 1) 0 = 8 := by unfold errE; rw [if_neg (by omega), ha]; simp [Pp.at_, hz]
          unfold whoV; rw [this]; rfl)
        rw [hz] at c1
        clear ha hp hz h
        go_enter Try.func89, Try.ntmps89
        go_wp2_with fail
        refine HA.out.mono ?_
        rintro x w1 ⟨rfl, hb1⟩
        have k1 := (hb1.cell (p := ⟨b, o + z * 4 + 1, none⟩) hbW).trans c1
        have k2 := (hb1.cell (p := ⟨b, o + z * 4 + 2, none⟩) hbW).trans c2
        have kl : b < w1.heap.size := by have := hb1.size; omega
        go_wp2
        exact bodyPost_ret (v := .tuple #[.int .i64 0, .int .i64 0, .int .i64 8]) (by simp [results, Try.results89, go_sem]) rfl (retv HV.out hb1)
      · have HV : Hid (whoV F ((i : Int) + 1) 0 = .tuple #[.int .i64 (z : Int), .int .i64 p.r, .int .i64 0]) := Lib.hid (by
          have : errE F ((i : Int) + 1) 0 = 0 := by unfold errE; rw [if_neg (by omega), ha]; simp [Pp.at_, hz]
          unfold whoV; rw [this, ha, show ((i : Int) + 1 - 1).toNat = i by omega, hzz]; rfl)
        have hd : (p.r == 0) = false := by simpa using hz
        clear ha hp hz h
        go_enter Try.func89, Try.ntmps89
        go_wp2_with fail
        refine HA.out.mono ?_
        rintro x w1 ⟨rfl, hb1⟩
        have k1 := (hb1.cell (p := ⟨b, o + z * 4 + 1, none⟩) hbW).trans c1
        have k2 := (hb1.cell (p := ⟨b, o + z * 4 + 2, none⟩) hbW).trans c2
        have kl : b < w1.heap.size := by have := hb1.size; omega
        go_wp2
        exact bodyPost_ret (v := .tuple #[.int .i64 (z : Int), .int .i64 p.r, .int .i64 0]) (by simp [results, Try.results89, go_sem]) rfl (retv HV.out hb1)
    · by_cases hz : p.w = 0
      · have HV : Hid (whoV F ((i : Int) + 1) 1 = .tuple #[.int .i64 0, .int .i64 0, .int .i64 8]) := Lib.hid (by
          have : errE F ((i : Int) + 1) 1 = 8 := by unfold errE; rw [if_neg (by omega), ha]; simp [Pp.at_, hz]
          unfold whoV; rw [this]; rfl)
        rw [hz] at c2
        clear ha hp hz h
        go_enter Try.func89, Try.ntmps89
        go_wp2_with fail
        refine HA.out.mono ?_
        rintro x w1 ⟨rfl, hb1⟩
        have k1 := (hb1.cell (p := ⟨b, o + z * 4 + 1, none⟩) hbW).trans c1
        have k2 := (hb1.cell (p := ⟨b, o + z * 4 + 2, none⟩) hbW).trans c2
        have kl : b < w1.heap.size := by have := hb1.size; omega
        go_wp2
        exact bodyPost_ret (v := .tuple #[.int .i64 0, .int .i64 0, .int .i64 8]) (by simp [results, Try.results89, go_sem]) rfl (retv HV.out hb1)
      · have HV : Hid (whoV F ((i : Int) + 1) 1 = .tuple #[.int .i64 (z : Int), .int .i64 p.w, .int .i64 0]) := Lib.hid (by
          have : errE F ((i : Int) + 1) 1 = 0 := by unfold errE; rw [if_neg (by omega), ha]; simp [Pp.at_, hz]
          unfold whoV; rw [this, ha, show ((i : Int) + 1 - 1).toNat = i by omega, hzz]; rfl)
        have hd : (p.w == 0) = false := by simpa using hz
        clear ha hp hz h
        go_enter Try.func89, Try.ntmps89
        go_wp2_with fail
        refine HA.out.mono ?_
        rintro x w1 ⟨rfl, hb1⟩
        have k1 := (hb1.cell (p := ⟨b, o + z * 4 + 1, none⟩) hbW).trans c1
        have k2 := (hb1.cell (p := ⟨b, o + z * 4 + 2, none⟩) hbW).trans c2
        have kl : b < w1.heap.size := by have := hb1.size; omega
        go_wp2
        exact bodyPost_ret (v := .tuple #[.int .i64 (z : Int), .int .i64 p.w, .int .i64 0]) (by simp [results, Try.results89, go_sem]) rfl (retv HV.out hb1)
set_option maxRecDepth 100000 in
theorem told_any (w : World) (BB : Nat) (A : Option Addr) (n c : Nat) (F : Fs) (id : Int) (h : RQ w BB A n F) (hB : BB ≤ w.heap.size) : Calls Try.prog 35 #[.slice A n c, .int .i64 id] w (RetV w (toldV F id)) := by
  have HA := Lib.hid (at_any w BB A n c F id h hB)
  cases ha : at1 F id with
  | none =>
    rw [place_less ha] at HA
    have HV : Hid (toldV F id = .tuple #[.int .i64 0, .int .i64 0, .int .i64 0, .int .i64 4]) := Lib.hid (by unfold toldV; rw [ha])
    clear h ha
    go_enter Try.func35, Try.ntmps35
    go_wp2_with fail
    refine HA.out.mono ?_
    rintro x w1 ⟨rfl, hb1⟩
    go_wp2
    exact bodyPost_ret (v := .tuple #[.int .i64 0, .int .i64 0, .int .i64 0, .int .i64 4]) (by simp [results, Try.results35, go_sem]) rfl (retv HV.out hb1)
  | some p =>
    obtain ⟨i, hi, rfl, hp⟩ := at1_some ha
    obtain ⟨p1, p2, p3⟩ := place_some hi hp
    have hlen := h.len
    rw [hlen.1] at p2
    obtain ⟨z, hzz⟩ : ∃ z, (lo F i).length = z := ⟨_, rfl⟩
    rw [hzz] at p1 p2 p3
    rw [p1] at HA
    obtain ⟨b, o, rfl, hb, -, c1, c2, c3⟩ := h.at_ p2
    rw [p3] at c1 c2 c3
    dsimp only [prOf] at c1 c2 c3
    have hbW : b < w.heap.size := by omega
    have hzn : (z : Int) < n := by omega
    have HV : Hid (toldV F ((i : Int) + 1) = .tuple #[.int .i64 p.r, .int .i64 p.w, .int .i64 (p.bs.length : Nat), .int .i64 0]) := Lib.hid (by unfold toldV; rw [ha])
    have hsz : (strOfNums p.bs).size = p.bs.length := strOfNums_size p.bs
    clear h ha hp
    go_enter Try.func35, Try.ntmps35
    go_wp2_with fail
    refine HA.out.mono ?_
    rintro x w1 ⟨rfl, hb1⟩
    have k1 := (hb1.cell (p := ⟨b, o + z * 4 + 1, none⟩) hbW).trans c1
    have k2 := (hb1.cell (p := ⟨b, o + z * 4 + 2, none⟩) hbW).trans c2
    have k3 := (hb1.cell (p := ⟨b, o + z * 4 + 3, none⟩) hbW).trans c3
    have kl : b < w1.heap.size := by have := hb1.size; omega
    go_wp2_with fail
    refine wp_region_near w1.heap.size (by kernel_rfl) (by kernel_rfl) ?_
    repeat (go_big_quiet_step (fail))
    refine wpQuiet_nil ?_
    intro w3 hb3
    go_wp2
    exact bodyPost_ret (v := .tuple #[.int .i64 p.r, .int .i64 p.w, .int .i64 (p.bs.length : Nat), .int .i64 0]) (by simp [results, Try.results35, go_sem]) rfl (retv HV.out (hb1.trans (hb3.mono hb1.size)))
end Go.Proofs.Ythlhjaacjhlkhaa
