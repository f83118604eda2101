/- Contract of ringref4.BindSpots. -/
import Derived.Test.YtmndmdipjfblhaaBpC
namespace Go.Proofs.Ytmndmdipjfblhaa
open Go.RowKit
set_option maxHeartbeats 400000
set_option linter.unusedVariables false
set_option linter.unusedSimpArgs false
theorem up_next {c x m : Nat} (h0 : 0 < m) (h1 : c ≤ x) (h2 : x ≤ upN c m) (h3 : x % m ≠ 0) : x + 1 ≤ upN c m := by
  rcases Nat.lt_or_ge x (upN c m) with h | h
  · exact h
  · have : x = upN c m := by omega
    subst this
    exact absurd (Nat.mul_mod_left _ _) h3
theorem up_done {c x m : Nat} (h0 : 0 < m) (h1 : c ≤ x) (h2 : x ≤ upN c m) (h3 : x % m = 0) : x = upN c m := by
  rcases Nat.lt_or_ge x (upN c m) with h | h
  · exfalso
    obtain ⟨q, rfl⟩ := Nat.dvd_of_mod_eq_zero h3
    unfold upN at h
    have h4 : q < (c + m - 1) / m := by
      rcases Nat.lt_or_ge q ((c + m - 1) / m) with h5 | h5
      · exact h5
      · have := Nat.mul_le_mul_right m h5
        rw [Nat.mul_comm q m] at this
        omega
    have h6 : (q + 1) * m ≤ c + m - 1 := (Nat.le_div_iff_mul_le h0).1 h4
    rw [Nat.add_mul, Nat.mul_comm q m] at h6
    omega
  · omega
theorem up_ge (c m : Nat) (h0 : 0 < m) : c ≤ upN c m := by
  unfold upN
  have := Nat.div_add_mod (c + m - 1) m
  have h2 := Nat.mod_lt (c + m - 1) h0
  rw [Nat.mul_comm] at this
  omega
theorem up_add (b x m : Nat) (h0 : 0 < m) (hb : b % m = 0) : upN (b + x) m = b + upN x m := by
  obtain ⟨q, rfl⟩ := Nat.dvd_of_mod_eq_zero hb
  unfold upN
  rw [show m * q + x + m - 1 = (x + m - 1) + q * m by rw [Nat.mul_comm m q]; omega, Nat.add_mul_div_right _ _ h0, Nat.add_mul, Nat.mul_comm q m]
  omega
theorem up_mod (c m : Nat) : upN c m % m = 0 := by unfold upN; exact Nat.mul_mod_left _ _
theorem dN_mod (os : List Ob) : ∀ k, k ≤ os.length → dN os k % 4 = 0
  | 0, _ => by have := up_mod (cN os os.length) 16; rw [dN_zero]; omega
  | k + 1, hk => by
    have e : os[k]? = some os[k] := List.getElem?_eq_getElem (by omega)
    have h1 := dN_mod os k (by omega)
    have h2 := up_mod os[k].n1 4
    rw [dN_step e]; omega
set_option maxHeartbeats 2000000 in
set_option maxRecDepth 100000 in
theorem bindSpots_any (hchk : ∀ (o : Ob) (w : World) (B : Nat), o.Read w B → B ≤ w.heap.size → o.n2 ≤ o.c2 → o.c2 ≤ 9223372036854775807 → Calls Try.prog 22 #[.agg o.vals] w (ErrPost w (objErr o)))
    (A : Option Addr) (n c : Nat) (os : List Ob) (w : World) (B : Nat) (h : RO w B A n os) (hB : B ≤ w.heap.size) (hn : n ≤ 9223372036854775807) : Calls Try.prog 6 #[.slice A n c] w (SpPost w os) := by
  obtain ⟨i0, hi, hz0, hz1, hz2⟩ := info_parts infoSpot
  have HL := Lib.hid h.len
  have HC := Lib.hid (partsFault_any hchk A n c os w B h hB hn)
  unfold ErrPost at HC
  by_cases hE : partsErr os = 0
  rotate_left
  · have e : Hid (spErr os = partsErr os) := Lib.hid (by unfold spErr; rw [if_neg hE])
    generalize partsErr os = E at *
    have HE := Lib.hid hE
    have d : (E != 0) = true := by simpa using hE
    clear hE
    go_enter Try.func6, Try.ntmps6
    go_wp2_with fail
    refine HC.out.mono ?_
    rintro e' w3 ⟨rfl, hb3⟩
    go_wp2
    go_ret3
    exact SpPost.bad e.out HE.out hb3
  obtain ⟨hl12, hfit⟩ := parts_zero hE
  rw [hE] at HC
  have HCL := Lib.hid (cN_le hfit)
  have HDL := Lib.hid (dN_le hfit hl12)
  have hn12 : n ≤ 12 := by rw [← HL.out]; exact hl12
  have HFIT := Lib.hid hfit
  have HE : Hid (spErr os = if 1024 < spTot os then 2 else 0) := Lib.hid (by unfold spErr; rw [if_pos hE])
  have HD0 : Hid (upN (cN os n) 16 = dN os 0) := Lib.hid (by rw [dN_zero, HL.out])
  clear hE hfit hl12
  go_enter Try.func6, Try.ntmps6
  go_wp2_with fail
  refine HC.out.mono ?_
  rintro e' w3 ⟨rfl, hb3⟩
  clear HC
  go_wp2_with (refine wpList_make_full _ rfl (.tmp 16) (.tmp 16) 23 rfl w.heap.size 31 i0 _ 2 Try.underlying23 hi hz0 hz1 .i64 .i64 _ _ n rfl rfl rfl rfl (by rw [hz2]; omega) (by simp only [maxLen]; omega) hb3.size ?_; intro w4 hown4 hgr4)
  have hr4 := Row.of_own hown4
  rw [show (Value.agg #[.int .i64 0, .int .i64 0]).cells = #[.int .i64 0, .int .i64 0] from rfl, spC_made] at hr4
  rw [show spC (fun _ => 0) (fun _ => 0) n = spC (cI os 0) (dI os 0) n by rw [cI_zero, dI_zero]] at hr4
  have hb4 : Below w.heap.size w w4 := hb3.grown hgr4 hb3.size (by simp)
  clear hown4 hgr4
  have HG3 := Lib.hid hb3.size
  generalize w3.heap.size = g at *
  clear hb3
  go_loopw [7, 20] (fun a i wr => ∃ k : Nat, k ≤ n ∧ i = .int .i64 k ∧ a = .int .i64 (cN os k : Nat) ∧ Row wr w.heap.size 31 2 (.slice (some ⟨g, 0, none⟩) n n) n (spC (cI os k) (dI os 0) n) ∧ Below w.heap.size w wr) (fun _ i _ => n - (intOf i).toNat)
  case atStart => exact ⟨0, by omega, rfl, by rw [cN_zero]; rfl, hr4, hb4⟩
  case round =>
    clear hr4 hb4
    obtain ⟨k, hk, rfl, rfl, hr, hbw⟩ := hrel
    have hsize := hbw.size
    by_cases hlt : k < n
    · obtain ⟨b, o, x, rfl, hb, hx, _, hfine, z0, z1, z2, z3⟩ := (h.below' hbw hB).at_ hlt
      have hcl := HCL.out k (by rw [HL.out]; omega)
      have hst := Lib.hid (cN_step hx)
      have hx0 := (HFIT.out x (List.mem_of_getElem? hx)).n0
      have HS1 := Lib.hid (spC_set0 (cI os k) (dI os 0) hlt (cN os k : Nat))
      have HCU := Lib.hid (cI_upd os k)
      obtain ⟨g', oo, e', hg1, hg2, hfz, hcells⟩ := spot_lt hr hlt
      obtain ⟨rfl, rfl⟩ : g' = g ∧ oo = 0 := by injection e' with e'; injection e' with e1 e2; exact ⟨e1.symm, e2.symm⟩
      clear e'
      have hc1 := hcells (k * 2) _ (spC_even _ _ hlt)
      rw [Nat.zero_add] at hc1
      have hf1 := hfz (k * 2)
      have hrs := hr.stored (j := k * 2) (by omega) (.int .i64 (cN os k : Nat))
      rw [Nat.zero_add] at hrs
      have HRS := Lib.hid hrs
      have HBB := Lib.hid ((Below.refl w.heap.size wr).setCell (p := ⟨g', k * 2, none⟩) hg2 (.int .i64 (cN os k : Nat)))
      have hgn1 : ¬ g' = b := by omega
      have hgn2 : ¬ b = g' := by omega
      clear hfine hx hr hcells hrs
      generalize cN os k = cn at *
      generalize spC (cI os k) (dI os 0) n = LL at *
      obtain ⟨A0, n0, c0, A1, n1, c1, A2, n2, c2, A3, n3, c3, ns, ds⟩ := x
      dsimp only at z0 z1 z2 z3 hst hx0
      go_wp2
      go_roundw
      case rel => exact ⟨k + 1, by omega, by go_num, by rw [hst.out]; go_num, by have := HRS.out; rw [HS1.out, HCU.out] at this; exact this, hbw.trans HBB.out⟩
      case measure => simp [intOf]; omega
    · obtain rfl : k = n := by omega
      have hcl := HCL.out k (by rw [HL.out]; exact Nat.le_refl _)
      have hup : upN (cN os k) 16 ≤ cN os k + 15 := by unfold upN; omega
      have hug := up_ge (cN os k) 16 (by omega)
      have HUN := Lib.hid (fun x => up_next (c := cN os k) (x := x) (m := 16) (by omega))
      have HUD := Lib.hid (fun x => up_done (c := cN os k) (x := x) (m := 16) (by omega))
      go_wp2
      go_loop [7] (fun a => ∃ x : Nat, a = .int .i64 x ∧ cN os k ≤ x ∧ x ≤ upN (cN os k) 16) (fun a => upN (cN os k) 16 - (intOf a).toNat)
      case atStart => exact ⟨_, rfl, Nat.le_refl _, hug⟩
      case round =>
        obtain ⟨x, rfl, h1, h2⟩ := hrel
        have htm : (x : Int).tmod 16 = (x : Int) % 16 := Int.tmod_eq_emod_of_nonneg (by omega)
        by_cases hm : x % 16 = 0
        · have d4 : ((x : Int) % 16 != 0) = false := by simp; omega
          have he := HUD.out x h1 h2 hm
          have HXE : Hid (x = dN os 0) := Lib.hid (he.trans HD0.out)
          clear hm he
          go_wp2
          rw [HXE.out]
          clear HUN HUD h1 h2 htm d4 HXE hup hug
          go_loopw [7, 45] (fun a i wr => ∃ j : Nat, j ≤ k ∧ i = .int .i64 j ∧ a = .int .i64 (dN os j : Nat) ∧ Row wr w.heap.size 31 2 (.slice (some ⟨g, 0, none⟩) k k) k (spC (cI os k) (dI os j) k) ∧ Below w.heap.size w wr) (fun _ i _ => k - (intOf i).toNat)
          case atStart => exact ⟨0, by omega, rfl, rfl, hr, hbw⟩
          case round =>
            clear hr hbw hlt
            obtain ⟨j, hj, rfl, rfl, hr, hbw⟩ := hrel
            have hsize := hbw.size
            by_cases hlt : j < k
            · obtain ⟨b, o, x, rfl, hb, hx, _, hfine, z0, z1, z2, z3⟩ := (h.below' hbw hB).at_ hlt
              have hdl := HDL.out j (by rw [HL.out]; omega)
              have hst := Lib.hid (dN_step hx)
              have hx1 := (HFIT.out x (List.mem_of_getElem? hx)).n1
              have HS1 := Lib.hid (spC_set1 (cI os k) (dI os j) hlt (dN os j : Nat))
              have HDU := Lib.hid (dI_upd os j)
              obtain ⟨g', oo, e', hg1, hg2, hfz, hcells⟩ := spot_lt hr hlt
              obtain ⟨rfl, rfl⟩ : g' = g ∧ oo = 0 := by injection e' with e'; injection e' with e1 e2; exact ⟨e1.symm, e2.symm⟩
              clear e'
              have hc1 := hcells (j * 2 + 1) _ (spC_odd _ _ hlt)
              rw [Nat.zero_add] at hc1
              have hf1 := hfz (j * 2 + 1)
              have hrs := hr.stored (j := j * 2 + 1) (by omega) (.int .i64 (dN os j : Nat))
              rw [Nat.zero_add] at hrs
              have HRS := Lib.hid hrs
              have HBB := Lib.hid ((Below.refl w.heap.size wr).setCell (p := ⟨g', j * 2 + 1, none⟩) hg2 (.int .i64 (dN os j : Nat)))
              have hgn1 : ¬ g' = b := by omega
              have hgn2 : ¬ b = g' := by omega
              have hmd := dN_mod os j (by rw [HL.out]; omega)
              have HUA := Lib.hid (up_add (dN os j) x.n1 4 (by omega) hmd)
              have hup : upN (dN os j + x.n1) 4 ≤ dN os j + x.n1 + 3 := by unfold upN; omega
              have hug := up_ge (dN os j + x.n1) 4 (by omega)
              have HUN := Lib.hid (fun y => up_next (c := dN os j + x.n1) (x := y) (m := 4) (by omega))
              have HUD := Lib.hid (fun y => up_done (c := dN os j + x.n1) (x := y) (m := 4) (by omega))
              clear hfine hx hr hcells hrs hmd
              generalize dN os j = dn at *
              generalize spC (cI os k) (dI os j) k = LL at *
              obtain ⟨A0, n0, c0, A1, n1, c1, A2, n2, c2, A3, n3, c3, ns, ds⟩ := x
              dsimp only at z0 z1 z2 z3 hst hx1 HUA hup hug HUN HUD
              go_wp2
              go_loop [7] (fun a => ∃ y : Nat, a = .int .i64 y ∧ dn + n1 ≤ y ∧ y ≤ upN (dn + n1) 4) (fun a => upN (dn + n1) 4 - (intOf a).toNat)
              case atStart => exact ⟨dn + n1, by go_num, Nat.le_refl _, hug⟩
              case round =>
                obtain ⟨y, rfl, h1, h2⟩ := hrel
                have htm : (y : Int).tmod 4 = (y : Int) % 4 := Int.tmod_eq_emod_of_nonneg (by omega)
                by_cases hm : y % 4 = 0
                · have d4 : ((y : Int) % 4 != 0) = false := by simp; omega
                  have HXE : Hid (y = dN os (j + 1)) := Lib.hid ((HUD.out y h1 h2 hm).trans (HUA.out.trans hst.out.symm))
                  clear hm
                  go_wp2
                  go_roundw
                  case rel => exact ⟨j + 1, by omega, by go_num, by rw [HXE.out], by have := HRS.out; rw [HS1.out, HDU.out] at this; exact this, hbw.trans HBB.out⟩
                  case measure => simp [intOf]; omega
                · have d4 : ((y : Int) % 4 != 0) = true := by simp; omega
                  have hn1 := HUN.out y h1 h2 hm
                  clear hm
                  go_wp2
                  go_round
                  case rel => exact ⟨y + 1, by go_num, by omega, hn1⟩
                  case measure => simp [intOf]; omega
            · obtain rfl : j = k := by omega
              have HCN : Hid (j = os.length) := Lib.hid HL.out.symm
              have HD := Lib.hid (show dN os j = spTot os by unfold spTot; rw [← HCN.out])
              have hdl := HDL.out j (by rw [HL.out]; exact Nat.le_refl _)
              rw [HD.out] at hdl ⊢
              rw [HCN.out] at hr
              by_cases hbig : 1024 < spTot os
              · have e : Hid (spErr os = 2) := Lib.hid (by rw [HE.out, if_pos hbig])
                generalize spTot os = T at *
                go_wp2
                go_ret3
                exact SpPost.bad e.out (by omega) hbw
              · have e : Hid (spErr os = 0) := Lib.hid (by rw [HE.out, if_neg hbig])
                have HG := Lib.hid (SpPost.good e.out (by rw [← HCN.out] at hr ⊢; exact hr) hbw)
                generalize spTot os = T at *
                go_wp2
                go_ret3
                exact HG.out
        · have d4 : ((x : Int) % 16 != 0) = true := by simp; omega
          have hn1 := HUN.out x h1 h2 hm
          clear hm
          go_wp2
          go_round
          case rel => exact ⟨x + 1, by go_num, by omega, hn1⟩
          case measure => simp [intOf]; omega
end Go.Proofs.Ytmndmdipjfblhaa
