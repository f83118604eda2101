/- The law ringlaw1.SpinPlays. -/
import Derived.Test.YtjcbnanajelpjaaSpC
import Derived.Test.YtjcbnanajelpjaaWrA
namespace Go.Proofs.Ytjcbnanajelpjaa
open Go.RowKit
set_option maxHeartbeats 400000
set_option linter.unusedVariables false
set_option linter.unusedSimpArgs false
/-- Between two plays: the lock at g, the law's own row v. -/
def SpI (w wr : World) (g : Nat) (v : Value) (nx : Int) (row rowl : List Int) : Prop :=
  ∃ cl hs tk, LockSt wr w.heap.size g nx cl hs tk ∧ LInv row nx cl hs tk ∧ Row wr w.heap.size 3 1 v rowl.length (rowl.map (Value.int .i64)) ∧ v.ownBlock ≠ some g ∧ Below w.heap.size w wr
theorem SpI.grow {w wr wr' : World} {g : Nat} {v : Value} {nx : Int} {row rowl : List Int} (h : SpI w wr g v nx row rowl) (hb : Below wr.heap.size wr wr') : SpI w wr' g v nx row rowl := by
  obtain ⟨cl, hs, tk, h1, h2, h3, h4, h5⟩ := h
  exact ⟨cl, hs, tk, h1.keep (Fr.of_grow hb) (fun h => h), h2, h3.fr (Fr.of_grow hb) (fun _ _ h => h), h4, h5.trans (hb.mono h5.size)⟩
theorem SpI.drewN {w wr : World} {g : Nat} {v : Value} {nx : Int} {row rowl : List Int} (h : SpI w wr g v nx row rowl) (k : Nat) : SpI w (wr.drewN k) g v nx row rowl := h.grow (sl_below_drewN (Below.refl _ _) k)
theorem SpI.go {w wr w' : World} {g : Nat} {v : Value} {nx cl nx' cl' : Int} {hs hs' : List Bool} {tk tk' : List Int} {row' rowl : List Int} (ho : LockSt wr w.heap.size g nx cl hs tk) (hr : Row wr w.heap.size 3 1 v rowl.length (rowl.map (Value.int .i64)))
    (hd : v.ownBlock ≠ some g) (hb : Below w.heap.size w wr) (hn : LockSt w' w.heap.size g nx' cl' hs' tk') (hf : Fr (fun k => k = g) wr w') (hv : LInv row' nx' cl' hs' tk') : SpI w w' g v nx' row' rowl :=
  ⟨cl', hs', tk', hn, hv, hr.fr hf (fun k hk e => hd (e ▸ hk)), hd, hb.trans (hf.below hb.size (fun k e => by rw [e]; exact ho.low))⟩
theorem SpI.append {w wr w1 : World} {g : Nat} {v v' : Value} {nx : Int} {row rowl : List Int} {x : Int} {X : Obj} (h : SpI w wr g v nx row rowl) (hr : Row w1 w.heap.size 3 1 v' (rowl.length + 1) (rowl.map (Value.int .i64) ++ [.int .i64 x]))
    (hg : (wr.alloc X).grownBy w1 v.ownBlock) (ho : v'.ownBlock = v.ownBlock ∨ v'.ownBlock = some (wr.heap.size + 1)) : SpI w w1 g v' nx row (rowl ++ [x]) := by
  obtain ⟨cl, hs, tk, h1, h2, h3, h4, h5⟩ := h
  have hfr : Fr (fun k => v.ownBlock = some k) wr w1 := ((Fr.refl _ wr).alloc X).grown hg (fun k e _ => e)
  exact ⟨cl, hs, tk, h1.keep hfr h4, h2, by simpa using hr, own_ne ho h4 (by have := h1.blk.lt; omega), h5.trans (hfr.below h5.size (fun k e => (h3.lt k e).1))⟩
theorem sp_cut {w : World} {base : Nat} {e : TypeId} {n b o c : Nat} {xs : List Value} (h : Row w base e 1 (.slice (some ⟨b, o, none⟩) (n + 1) c) (n + 1) xs) :
    Row w base e 1 (.slice (if c = 1 then some ⟨b, o, none⟩ else some ⟨b, o + 1, none⟩) n (c - 1)) n (xs.drop 1) := by
  have := h.cut (k := 1) (by omega)
  simpa [add_plain] using this
theorem SpI.cut {w wr : World} {g b o c : Nat} {nx : Int} {t : Int} {rowo row : List Int} (h : SpI w wr g (.slice (some ⟨b, o, none⟩) (row.length + 1) c) nx rowo (t :: row)) : SpI w wr g (.slice (if c = 1 then some ⟨b, o, none⟩ else some ⟨b, o + 1, none⟩) row.length (c - 1)) nx rowo row := by
  obtain ⟨cl, hs, tk, h1, h2, h3, h4, h5⟩ := h
  have := sp_cut (n := row.length) h3
  exact ⟨cl, hs, tk, h1, h2, by simpa using this, fun e => h4 (by rw [← e]; split <;> rfl), h5⟩
theorem lock_new (w : World) (B : Nat) (x : Int) (hx : U16 x) (hB : B ≤ w.heap.size) : LockSt (w.alloc (.cells (lkCells x x [false, false, false, false] [0, 0, 0, 0]) 126)) B w.heap.size x x [false, false, false, false] [0, 0, 0, 0] := ⟨Blk.new _ _ _, hB, rfl, rfl, hx, hx⟩
theorem SpI.start (w wr : World) (x : Int) (hx : U16 x) (hb : Below w.heap.size w wr) : SpI w (wr.alloc (.cells (lkCells x x [false, false, false, false] [0, 0, 0, 0]) 126)) wr.heap.size (.slice none 0 0) x [] [] :=
  ⟨x, _, _, lock_new wr w.heap.size x hx hb.size, LInv.start x hx, Row.nil _ _ _ _, by simp [Value.ownBlock], hb.alloc hb.size _⟩
def apI (a b : Int) : Int := (b - a + 32768) % 65536 - 32768
theorem apart_any (a b : Int) (w : World) (ha : U16 a) (hb : U16 b) : Calls Try.prog 55 #[.int .u16 a, .int .u16 b] w fun e w' => e = .returned (.int .i64 (apI a b)) ∧ w = w' := by
  unfold U16 at ha hb
  have h1 : IntKind.u32.wrap a = a := IntWalk.u32_in _ (by omega)
  have h2 : IntKind.u32.wrap b = b := IntWalk.u32_in _ (by omega)
  have h3 : IntKind.u32.wrap (a * 65536) = a * 65536 := IntWalk.u32_in _ (by omega)
  have h4 : IntKind.u32.wrap (b * 65536) = b * 65536 := IntWalk.u32_in _ (by omega)
  go_enter Try.func55, Try.ntmps55
  go_wp2_with fail
  refine (far_any (a * 65536) (b * 65536) _ ⟨by omega, by omega⟩ ⟨by omega, by omega⟩).mono ?_
  rintro e w' ⟨rfl, rfl⟩
  have h5 : Hid (farI (a * 65536) (b * 65536) / 65536 = apI a b) := Lib.hid (by unfold farI apI; omega)
  have h6 : -2147483648 ≤ farI (a * 65536) (b * 65536) ∧ farI (a * 65536) (b * 65536) < 2147483648 := by unfold farI; omega
  generalize farI (a * 65536) (b * 65536) = f at *
  go_wp2
  go_ret
  exact ⟨sl_int (by first | exact h5.out | (rw [← h5.out]; rfl)), rfl⟩
set_option maxHeartbeats 40000000 in
set_option maxRecDepth 100000 in
theorem law_spinPlays (f0 : Int) (A : Option Addr) (n c : Nat) (pa pb : Int) (ps : List Pl) (w : World) (h : RPl w w.heap.size A n ps) (hn : n ≤ 5864062014634) (hf0 : U16 f0) (hpa : U16 pa) (hpb : U16 pb) :
    Calls Try.prog 9 #[.int .u16 f0, .slice A n c, .int .u16 pa, .int .u16 pb] w fun e w' => e = .returned (.bool true) ∧ Below w.heap.size w w' := by
  obtain ⟨i0, hi, hz0, hz1, hz2⟩ := info_parts Try.infoInt
  go_enter Try.func9, Try.ntmps9
  go_wp2_with fail
  refine (newLock_any 7 _).mono ?_
  rintro e w0 ⟨rfl, rfl⟩
  have h0 := lock_new w w.heap.size 7 ⟨by omega, by omega⟩ (Nat.le_refl _)
  go_wp2_with fail
  refine (free_not w.heap.size 0 (by omega) _ h0 rfl).mono ?_
  rintro e w1 ⟨rfl, nq, rfl⟩
  have h1 := h0.keep ((Fr.refl Nil _).drewN nq) (fun h => h)
  go_wp2_with fail
  refine (take_new w.heap.size 3 (by omega) _ h1 rfl).mono ?_
  rintro e w2 ⟨rfl, h2, hf2⟩
  have hb2 : Below w.heap.size w w2 := (sl_below_drewN ((Below.refl _ _).alloc (Nat.le_refl _) _) nq).trans (hf2.below (by simp [World.drewN]) (fun k e => by omega))
  clear h0 h1 h2 hf2
  go_wp2_with fail
  refine (newLock_any f0 _).mono ?_
  rintro e w3 ⟨rfl, rfl⟩
  have hI0 := SpI.start w w2 f0 hf0 hb2
  clear hb2
  generalize w2.alloc (.cells (lkCells f0 f0 [false, false, false, false] [0, 0, 0, 0]) 126) = w3 at *
  generalize w2.heap.size = g at *
  go_wp2_with fail
  go_loopw [13, 14, 50] (fun v nn i wr => ∃ (k : Nat) (nx : Int) (row : List Int), k ≤ n ∧ i = .int .i64 k ∧ nn = .int .u16 nx ∧ SpI w wr g v nx row row) (fun _ _ i _ => n - (intOf i).toNat)
  case atStart => exact ⟨0, f0, [], by omega, rfl, rfl, hI0⟩
  case round =>
    clear hI0
    obtain ⟨k, nx, row, hk, rfl, rfl, hI⟩ := hrel
    have HI := Lib.hid hI
    obtain ⟨cl, hs, tk, ho, hv, hr, hdis, hb⟩ := hI
    obtain ⟨A9, c9, rfl, hc91, hc92⟩ := hr.shape
    have hlen := hv.len
    by_cases hlt : k < n
    · obtain ⟨b, o, rfl, hbB, hcell, hfine⟩ := (h.below' hb (Nat.le_refl _)).at_ hlt
      generalize ps.getD k .zero = p at *
      obtain ⟨Ap, np, cp, xs⟩ := p
      obtain ⟨hri, hnp⟩ := hfine
      dsimp only at hcell hri hnp
      have hkn : (k : Int) < n := by omega
      have hbw : b < wr.heap.size := by have := hb.size; omega
      have hx1 := i64_range (RI.rng hri 1 (by decide))
      go_wp2_with fail
      refine (at_any Ap np cp xs 1 _ _ (RD.of_ri hri) hnp (by omega)).mono ?_
      rintro e w4 ⟨rfl, rfl⟩
      generalize xs.getD 1 0 = x at *
      have hcpu : ∃ cpu : Bool, cpu = decide (0 ≤ x ∧ x < 4) := ⟨_, rfl⟩
      by_cases hx0 : 0 ≤ x
      · have dx0 : decide (0 ≤ x) = true := by simpa using hx0
        by_cases hx4 : x < 4
        · have dx4 : decide (x < 4) = true := by simpa using hx4
          obtain ⟨i, rfl⟩ : ∃ i : Nat, x = i := ⟨x.toNat, by omega⟩
          go_wp2_with fail
          refine (at_any Ap np cp xs 0 _ _ (RD.of_ri hri) hnp (by omega)).mono ?_
          rintro e w4 ⟨rfl, rfl⟩
          generalize xs.getD 0 0 = y at *
          by_cases hy1 : y = 1
          · have HY := Lib.hid hy1
            have e1 : (y == 1) = true := by simpa using hy1
            clear hy1
            cases hct : row.contains (i : Int) with
            | true =>
              have HC := Lib.hid hct
              clear hct
              go_wp2_with fail
              refine (take_has g i (by omega) _ ho (by rw [hv.has i (by omega)]; exact HC.out)).mono ?_
              rintro e w8 ⟨rfl, rfl⟩
              go_wp2_with fail
              refine (contains_is _ _ _ _ row _ _ (RD.of_row hr) (by omega) HC.out).mono ?_
              rintro e w8 ⟨rfl, rfl⟩
              clear ho hr hdis
              as_aux_lemma =>
                have HJ := Lib.hid (HI.out)
                clear hcell hri
                go_wp2_with fail
                go_loopw [22] (fun jj w5 => ∃ q : Int, -1 ≤ q ∧ q ≤ 5 ∧ jj = .int .i64 q ∧ SpI w w5 g _ (nx) (row) (row)) (fun jj _ => (5 - intOf jj).toNat)
                case atStart => exact ⟨-1, by omega, by omega, rfl, HJ.out⟩
                case round =>
                  clear HJ
                  rename_i w5
                  obtain ⟨q, hq1, hq2, rfl, hJ⟩ := hrel
                  have HJ := Lib.hid hJ
                  obtain ⟨cl5, hs5, tk5, ho5, hv5, hr5, hdis5, hb5⟩ := hJ
                  by_cases hq5 : q < 5
                  · by_cases hq0 : q < 0
                    · have dq : decide (q < 0) = true := by simpa using hq0
                      go_wp2_with fail
                      refine (mine_bad g q _ (.inl hq0)).mono ?_
                      rintro e w6 ⟨rfl, rfl⟩
                      clear ho5 hr5
                      go_wp2
                      go_roundw
                      case rel => exact ⟨_, by omega, by omega, rfl, HJ.out⟩
                      case measure => simp [intOf]; omega
                    have dq : decide (q < 0) = false := by simpa using hq0
                    by_cases hq3 : 3 < q
                    · have dq3 : decide (3 < q) = true := by simpa using hq3
                      go_wp2_with fail
                      refine (mine_bad g q _ (.inr (by omega))).mono ?_
                      rintro e w6 ⟨rfl, rfl⟩
                      clear ho5 hr5
                      go_wp2
                      go_roundw
                      case rel => exact ⟨_, by omega, by omega, rfl, HJ.out⟩
                      case measure => simp [intOf]; omega
                    have dq3 : decide (3 < q) = false := by simpa using hq3
                    obtain ⟨ii, rfl⟩ : ∃ ii : Nat, q = ii := ⟨q.toNat, by omega⟩
                    have hm5 := Lib.hid (hv5.mine ho5.cl ii (by omega))
                    have hlen5 := hv5.len
                    by_cases h0 : 0 < (row).length
                    · have dz : decide (0 < (row).length) = true := by simpa using h0
                      obtain ⟨b5, o5, e5, hb55, hc5⟩ := RD.at_ (RD.of_row' hr5) (i := 0) (by first | exact h0 | (simp at h0 ⊢ <;> omega))
                      cases e5
                      rw [Nat.add_zero] at hc5
                      generalize (row).getD 0 0 = t5 at *
                      by_cases ht : t5 = ii
                      · have dt : (t5 == (ii : Int)) = true := by simpa using ht
                        have hb6 := Lib.hid (show _ = true from hm5.out.trans (by rw [dz, decide_eq_true ht]; rfl))
                        clear ht hm5
                        go_wp2_with fail
                        refine (mine_is g ii (by omega) _ ho5 hb6.out).mono ?_
                        rintro e w6 ⟨rfl, nq, rfl⟩
                        have HJ2 := Lib.hid (HJ.out.drewN nq)
                        clear ho5 hr5
                        go_wp2
                        go_roundw
                        case rel => exact ⟨_, by omega, by omega, rfl, HJ2.out⟩
                        case measure => simp [intOf]; omega
                      · have dt : (t5 == (ii : Int)) = false := by simpa using ht
                        have hb6 := Lib.hid (show _ = false from hm5.out.trans (by rw [decide_eq_false ht]; simp))
                        clear hm5
                        go_wp2_with fail
                        refine (mine_is g ii (by omega) _ ho5 hb6.out).mono ?_
                        rintro e w6 ⟨rfl, nq, rfl⟩
                        have HJ2 := Lib.hid (HJ.out.drewN nq)
                        clear ho5 hr5
                        go_wp2
                        go_roundw
                        case rel => exact ⟨_, by omega, by omega, rfl, HJ2.out⟩
                        case measure => simp [intOf]; omega
                    · have dz : decide (0 < (row).length) = false := by simpa using h0
                      have hb6 := Lib.hid (show _ = false from hm5.out.trans (by rw [dz]; rfl))
                      clear hm5
                      go_wp2_with fail
                      refine (mine_is g ii (by omega) _ ho5 hb6.out).mono ?_
                      rintro e w6 ⟨rfl, nq, rfl⟩
                      have HJ2 := Lib.hid (HJ.out.drewN nq)
                      clear ho5 hr5
                      go_wp2
                      go_roundw
                      case rel => exact ⟨_, by omega, by omega, rfl, HJ2.out⟩
                      case measure => simp [intOf]; omega
                  · obtain rfl : q = 5 := by omega
                    have hlen5 := hv5.len
                    go_wp2_with fail
                    refine (lockRow_any g _ ho5 hv5).mono ?_
                    rintro e w6 ⟨v, rfl, hr6, hb6⟩
                    obtain ⟨A6, c6, rfl, hc61, hc62⟩ := hr6.shape
                    try simp only [List.length_append, List.length_cons, List.length_nil, Nat.zero_add] at hr6 hlen5
                    have hr7 := hr5.grow hb6
                    go_wp2_with fail
                    refine (equal_any _ _ _ _ _ _ (row) (row) _ _ _ (RD.of_row' hr6) (RD.of_row' hr7) (Nat.le_refl _) (Nat.le_refl _) (by first | omega | (simp <;> omega)) (by first | omega | (simp <;> omega))).mono ?_
                    rintro e w7 ⟨rfl, hb7⟩
                    rw [decide_eq_true rfl]
                    have hJ9 := (HJ.out.grow hb6).grow hb7
                    clear ho5 hv5 hr5 hdis5 hb5 hr6 hb6 hr7 hb7 HJ
                    go_wp2
                    go_roundw
                    case rel => exact ⟨k + 1, nx, row, by omega, by go_num, rfl, hJ9⟩
                    case measure => simp [intOf]; omega
            | false =>
              have HC := Lib.hid hct
              clear hct
              go_wp2_with fail
              refine (take_new g i (by omega) _ ho (by rw [hv.has i (by omega)]; exact HC.out)).mono ?_
              rintro e w8 ⟨rfl, hn8, hf8⟩
              have hK : SpI w w8 g (.slice A9 row.length c9) _ _ row := SpI.go ho hr hdis hb hn8 hf8 (hv.take ho.hl ho.tl i (by omega) HC.out)
              clear HI ho hr hdis hn8 hf8 hb
              have hwn : IntKind.u16.wrap (nx + 1) = (nx + 1) % 65536 := by rw [IntKind.wrap_u16]
              have HK := Lib.hid hK
              obtain ⟨cl6, hs6, tk6, ho6, hv6, hr6, hdis6, hb6⟩ := hK
              have hlen6 := hv6.len
              simp only [List.length_append, List.length_cons, List.length_nil] at hlen6
              go_wp2_with fail
              refine (contains_is _ _ _ _ row _ _ (RD.of_row hr6) (by omega) HC.out).mono ?_
              rintro e w7 ⟨rfl, rfl⟩
              have dnn : (nx != nx) = false := by simp
              go_wp2_with (at_builtin; refine wpList_append_row _ rfl (.tmp 79) (.tmp 81) 30 rfl w.heap.size 3 i0 (.int .i64 0) 1 8 Try.underlying30 hi hz0 hz1 hz2 rfl (by decide) (.slice A9 row.length c9) row.length (row.map (Value.int .i64)) rfl (hr6.alloc _) (w8.heap.size + 1) (some ⟨w8.heap.size, 0, none⟩) 1 1 [.int .i64 i] rfl (reads_one w8 (.int .i64 i) 3) (by simp [Value.oneCell']) (by unfold maxLen; omega) (by omega) (by have := hb6.size; simp; omega) ?_)
              intro A1 c1 w6 hr1 hg1 ho1
              have hK3 := HK.out.append hr1 hg1 (ho1.imp id (fun e => e.trans (by simp)))
              clear hr1 hg1 ho1 ho6 hr6 hdis6 hb6 HK hv6
              as_aux_lemma =>
                have HJ := Lib.hid (hK3)
                clear hcell hri
                go_wp2_with fail
                go_loopw [22] (fun jj w5 => ∃ q : Int, -1 ≤ q ∧ q ≤ 5 ∧ jj = .int .i64 q ∧ SpI w w5 g _ ((nx + 1) % 65536) (row ++ [(i : Int)]) (row ++ [(i : Int)])) (fun jj _ => (5 - intOf jj).toNat)
                case atStart => exact ⟨-1, by omega, by omega, rfl, HJ.out⟩
                case round =>
                  clear HJ
                  rename_i w5
                  obtain ⟨q, hq1, hq2, rfl, hJ⟩ := hrel
                  have HJ := Lib.hid hJ
                  obtain ⟨cl5, hs5, tk5, ho5, hv5, hr5, hdis5, hb5⟩ := hJ
                  by_cases hq5 : q < 5
                  · by_cases hq0 : q < 0
                    · have dq : decide (q < 0) = true := by simpa using hq0
                      go_wp2_with fail
                      refine (mine_bad g q _ (.inl hq0)).mono ?_
                      rintro e w6 ⟨rfl, rfl⟩
                      clear ho5 hr5
                      go_wp2
                      go_roundw
                      case rel => exact ⟨_, by omega, by omega, rfl, HJ.out⟩
                      case measure => simp [intOf]; omega
                    have dq : decide (q < 0) = false := by simpa using hq0
                    by_cases hq3 : 3 < q
                    · have dq3 : decide (3 < q) = true := by simpa using hq3
                      go_wp2_with fail
                      refine (mine_bad g q _ (.inr (by omega))).mono ?_
                      rintro e w6 ⟨rfl, rfl⟩
                      clear ho5 hr5
                      go_wp2
                      go_roundw
                      case rel => exact ⟨_, by omega, by omega, rfl, HJ.out⟩
                      case measure => simp [intOf]; omega
                    have dq3 : decide (3 < q) = false := by simpa using hq3
                    obtain ⟨ii, rfl⟩ : ∃ ii : Nat, q = ii := ⟨q.toNat, by omega⟩
                    have hm5 := Lib.hid (hv5.mine ho5.cl ii (by omega))
                    have hlen5 := hv5.len
                    have h0 : 0 < (row ++ [(i : Int)]).length := by simp
                    have dz : decide (0 < (row ++ [(i : Int)]).length) = true := by simp
                    obtain ⟨b5, o5, e5, hb55, hc5⟩ := RD.at_ (RD.of_row' hr5) (i := 0) (by first | exact h0 | (simp at h0 ⊢ <;> omega))
                    cases e5
                    rw [Nat.add_zero] at hc5
                    generalize (row ++ [(i : Int)]).getD 0 0 = t5 at *
                    by_cases ht : t5 = ii
                    · have dt : (t5 == (ii : Int)) = true := by simpa using ht
                      have hb6 := Lib.hid (show _ = true from hm5.out.trans (by rw [dz, decide_eq_true ht]; rfl))
                      clear ht hm5
                      go_wp2_with fail
                      refine (mine_is g ii (by omega) _ ho5 hb6.out).mono ?_
                      rintro e w6 ⟨rfl, nq, rfl⟩
                      have HJ2 := Lib.hid (HJ.out.drewN nq)
                      clear ho5 hr5
                      go_wp2
                      go_roundw
                      case rel => exact ⟨_, by omega, by omega, rfl, HJ2.out⟩
                      case measure => simp [intOf]; omega
                    · have dt : (t5 == (ii : Int)) = false := by simpa using ht
                      have hb6 := Lib.hid (show _ = false from hm5.out.trans (by rw [decide_eq_false ht]; simp))
                      clear hm5
                      go_wp2_with fail
                      refine (mine_is g ii (by omega) _ ho5 hb6.out).mono ?_
                      rintro e w6 ⟨rfl, nq, rfl⟩
                      have HJ2 := Lib.hid (HJ.out.drewN nq)
                      clear ho5 hr5
                      go_wp2
                      go_roundw
                      case rel => exact ⟨_, by omega, by omega, rfl, HJ2.out⟩
                      case measure => simp [intOf]; omega
                  · obtain rfl : q = 5 := by omega
                    have hlen5 := hv5.len
                    go_wp2_with fail
                    refine (lockRow_any g _ ho5 hv5).mono ?_
                    rintro e w6 ⟨v, rfl, hr6, hb6⟩
                    obtain ⟨A6, c6, rfl, hc61, hc62⟩ := hr6.shape
                    try simp only [List.length_append, List.length_cons, List.length_nil, Nat.zero_add] at hr6 hlen5
                    have hr7 := hr5.grow hb6
                    go_wp2_with fail
                    refine (equal_any _ _ _ _ _ _ (row ++ [(i : Int)]) (row ++ [(i : Int)]) _ _ _ (RD.of_row' hr6) (RD.of_row' hr7) (Nat.le_refl _) (Nat.le_refl _) (by first | omega | (simp <;> omega)) (by first | omega | (simp <;> omega))).mono ?_
                    rintro e w7 ⟨rfl, hb7⟩
                    rw [decide_eq_true rfl]
                    have hJ9 := (HJ.out.grow hb6).grow hb7
                    clear ho5 hv5 hr5 hdis5 hb5 hr6 hb6 hr7 hb7 HJ
                    go_wp2
                    go_roundw
                    case rel => exact ⟨k + 1, (nx + 1) % 65536, row ++ [(i : Int)], by omega, by go_num, rfl, hJ9⟩
                    case measure => simp [intOf]; omega
          have e1 : (y == 1) = false := by simpa using hy1
          by_cases hy2 : y = 2
          · have HY := Lib.hid hy2
            have e2 : (y == 2) = true := by simpa using hy2
            clear hy1 hy2
            have hmi := Lib.hid (hv.mine ho.cl i (by omega))
            rcases row with _ | ⟨t, row⟩
            · go_wp2_with fail
              refine (free_not g i (by omega) _ ho (hmi.out.trans (by simp))).mono ?_
              rintro e w8 ⟨rfl, nq, rfl⟩
              have hK := HI.out.drewN nq
              clear ho hr hdis HI
              as_aux_lemma =>
                have HJ := Lib.hid (hK)
                clear hcell hri
                go_wp2_with fail
                go_loopw [22] (fun jj w5 => ∃ q : Int, -1 ≤ q ∧ q ≤ 5 ∧ jj = .int .i64 q ∧ SpI w w5 g _ (nx) ([]) ([])) (fun jj _ => (5 - intOf jj).toNat)
                case atStart => exact ⟨-1, by omega, by omega, rfl, HJ.out⟩
                case round =>
                  clear HJ
                  rename_i w5
                  obtain ⟨q, hq1, hq2, rfl, hJ⟩ := hrel
                  have HJ := Lib.hid hJ
                  obtain ⟨cl5, hs5, tk5, ho5, hv5, hr5, hdis5, hb5⟩ := hJ
                  by_cases hq5 : q < 5
                  · by_cases hq0 : q < 0
                    · have dq : decide (q < 0) = true := by simpa using hq0
                      go_wp2_with fail
                      refine (mine_bad g q _ (.inl hq0)).mono ?_
                      rintro e w6 ⟨rfl, rfl⟩
                      clear ho5 hr5
                      go_wp2
                      go_roundw
                      case rel => exact ⟨_, by omega, by omega, rfl, HJ.out⟩
                      case measure => simp [intOf]; omega
                    have dq : decide (q < 0) = false := by simpa using hq0
                    by_cases hq3 : 3 < q
                    · have dq3 : decide (3 < q) = true := by simpa using hq3
                      go_wp2_with fail
                      refine (mine_bad g q _ (.inr (by omega))).mono ?_
                      rintro e w6 ⟨rfl, rfl⟩
                      clear ho5 hr5
                      go_wp2
                      go_roundw
                      case rel => exact ⟨_, by omega, by omega, rfl, HJ.out⟩
                      case measure => simp [intOf]; omega
                    have dq3 : decide (3 < q) = false := by simpa using hq3
                    obtain ⟨ii, rfl⟩ : ∃ ii : Nat, q = ii := ⟨q.toNat, by omega⟩
                    have hm5 := Lib.hid (hv5.mine ho5.cl ii (by omega))
                    have hlen5 := hv5.len
                    have hb6 := Lib.hid (show _ = false from hm5.out.trans (by simp))
                    clear hm5
                    go_wp2_with fail
                    refine (mine_is g ii (by omega) _ ho5 hb6.out).mono ?_
                    rintro e w6 ⟨rfl, nq, rfl⟩
                    have HJ2 := Lib.hid (HJ.out.drewN nq)
                    clear ho5 hr5
                    go_wp2
                    go_roundw
                    case rel => exact ⟨_, by omega, by omega, rfl, HJ2.out⟩
                    case measure => simp [intOf]; omega
                  · obtain rfl : q = 5 := by omega
                    have hlen5 := hv5.len
                    go_wp2_with fail
                    refine (lockRow_any g _ ho5 hv5).mono ?_
                    rintro e w6 ⟨v, rfl, hr6, hb6⟩
                    obtain ⟨A6, c6, rfl, hc61, hc62⟩ := hr6.shape
                    try simp only [List.length_append, List.length_cons, List.length_nil, Nat.zero_add] at hr6 hlen5
                    have hr7 := hr5.grow hb6
                    go_wp2_with fail
                    refine (equal_any _ _ _ _ _ _ ([]) ([]) _ _ _ (RD.of_row' hr6) (RD.of_row' hr7) (Nat.le_refl _) (Nat.le_refl _) (by first | omega | (simp <;> omega)) (by first | omega | (simp <;> omega))).mono ?_
                    rintro e w7 ⟨rfl, hb7⟩
                    rw [decide_eq_true rfl]
                    have hJ9 := (HJ.out.grow hb6).grow hb7
                    clear ho5 hv5 hr5 hdis5 hb5 hr6 hb6 hr7 hb7 HJ
                    go_wp2
                    go_roundw
                    case rel => exact ⟨k + 1, nx, [], by omega, by go_num, rfl, hJ9⟩
                    case measure => simp [intOf]; omega
            · simp only [List.length_cons] at hr hc91 ⊢
              obtain ⟨b9, o9, u, e9, hb99, hx9, hcell9⟩ := Reads.at_ (k := 0) hr.reads (by simp)
              have hu : u = .int .i64 t := by simpa using hx9.symm
              subst hu
              subst e9
              clear hx9
              rw [Nat.add_zero] at hcell9
              have dlen : ((row.length : Int) + 1 == 0) = false := by simp <;> omega
              have hpos : decide (0 < (row.length : Int) + 1) = true := by simp <;> omega
              by_cases hti : t = i
              · subst hti
                have dt : ((i : Int) != i) = false := by simp
                go_wp2_with fail
                refine (free_mine g i (by omega) _ ho (hmi.out.trans (by simp))).mono ?_
                rintro e w8 ⟨rfl, hn8, hf8⟩
                have hK := SpI.go ho hr hdis hb hn8 hf8 (hv.free ho.hl (by omega))
                have hcell8 := (hf8.cell (p := ⟨b9, o9, none⟩) (by simpa using hb99) (fun e => hdis (by show some b9 = some g; rw [show b9 = g from e]))).trans hcell9
                have hK := hK.cut
                clear HI ho hr hdis hn8 hf8 hb hcell9
                generalize hA : (if c9 = 1 then some (⟨b9, o9, none⟩ : Addr) else some ⟨b9, o9 + 1, none⟩) = A8 at hK
                as_aux_lemma =>
                  have HJ := Lib.hid (hK)
                  clear hcell hri
                  go_wp2_with fail
                  go_loopw [22] (fun jj w5 => ∃ q : Int, -1 ≤ q ∧ q ≤ 5 ∧ jj = .int .i64 q ∧ SpI w w5 g _ (nx) (row) (row)) (fun jj _ => (5 - intOf jj).toNat)
                  case atStart => exact ⟨-1, by omega, by omega, rfl, HJ.out⟩
                  case round =>
                    clear HJ
                    rename_i w5
                    obtain ⟨q, hq1, hq2, rfl, hJ⟩ := hrel
                    have HJ := Lib.hid hJ
                    obtain ⟨cl5, hs5, tk5, ho5, hv5, hr5, hdis5, hb5⟩ := hJ
                    by_cases hq5 : q < 5
                    · by_cases hq0 : q < 0
                      · have dq : decide (q < 0) = true := by simpa using hq0
                        go_wp2_with fail
                        refine (mine_bad g q _ (.inl hq0)).mono ?_
                        rintro e w6 ⟨rfl, rfl⟩
                        clear ho5 hr5
                        go_wp2
                        go_roundw
                        case rel => exact ⟨_, by omega, by omega, rfl, HJ.out⟩
                        case measure => simp [intOf]; omega
                      have dq : decide (q < 0) = false := by simpa using hq0
                      by_cases hq3 : 3 < q
                      · have dq3 : decide (3 < q) = true := by simpa using hq3
                        go_wp2_with fail
                        refine (mine_bad g q _ (.inr (by omega))).mono ?_
                        rintro e w6 ⟨rfl, rfl⟩
                        clear ho5 hr5
                        go_wp2
                        go_roundw
                        case rel => exact ⟨_, by omega, by omega, rfl, HJ.out⟩
                        case measure => simp [intOf]; omega
                      have dq3 : decide (3 < q) = false := by simpa using hq3
                      obtain ⟨ii, rfl⟩ : ∃ ii : Nat, q = ii := ⟨q.toNat, by omega⟩
                      have hm5 := Lib.hid (hv5.mine ho5.cl ii (by omega))
                      have hlen5 := hv5.len
                      by_cases h0 : 0 < (row).length
                      · have dz : decide (0 < (row).length) = true := by simpa using h0
                        obtain ⟨b5, o5, e5, hb55, hc5⟩ := RD.at_ (RD.of_row' hr5) (i := 0) (by first | exact h0 | (simp at h0 ⊢ <;> omega))
                        cases e5
                        rw [Nat.add_zero] at hc5
                        generalize (row).getD 0 0 = t5 at *
                        by_cases ht : t5 = ii
                        · have dt : (t5 == (ii : Int)) = true := by simpa using ht
                          have hb6 := Lib.hid (show _ = true from hm5.out.trans (by rw [dz, decide_eq_true ht]; rfl))
                          clear ht hm5
                          go_wp2_with fail
                          refine (mine_is g ii (by omega) _ ho5 hb6.out).mono ?_
                          rintro e w6 ⟨rfl, nq, rfl⟩
                          have HJ2 := Lib.hid (HJ.out.drewN nq)
                          clear ho5 hr5
                          go_wp2
                          go_roundw
                          case rel => exact ⟨_, by omega, by omega, rfl, HJ2.out⟩
                          case measure => simp [intOf]; omega
                        · have dt : (t5 == (ii : Int)) = false := by simpa using ht
                          have hb6 := Lib.hid (show _ = false from hm5.out.trans (by rw [decide_eq_false ht]; simp))
                          clear hm5
                          go_wp2_with fail
                          refine (mine_is g ii (by omega) _ ho5 hb6.out).mono ?_
                          rintro e w6 ⟨rfl, nq, rfl⟩
                          have HJ2 := Lib.hid (HJ.out.drewN nq)
                          clear ho5 hr5
                          go_wp2
                          go_roundw
                          case rel => exact ⟨_, by omega, by omega, rfl, HJ2.out⟩
                          case measure => simp [intOf]; omega
                      · have dz : decide (0 < (row).length) = false := by simpa using h0
                        have hb6 := Lib.hid (show _ = false from hm5.out.trans (by rw [dz]; rfl))
                        clear hm5
                        go_wp2_with fail
                        refine (mine_is g ii (by omega) _ ho5 hb6.out).mono ?_
                        rintro e w6 ⟨rfl, nq, rfl⟩
                        have HJ2 := Lib.hid (HJ.out.drewN nq)
                        clear ho5 hr5
                        go_wp2
                        go_roundw
                        case rel => exact ⟨_, by omega, by omega, rfl, HJ2.out⟩
                        case measure => simp [intOf]; omega
                    · obtain rfl : q = 5 := by omega
                      have hlen5 := hv5.len
                      go_wp2_with fail
                      refine (lockRow_any g _ ho5 hv5).mono ?_
                      rintro e w6 ⟨v, rfl, hr6, hb6⟩
                      obtain ⟨A6, c6, rfl, hc61, hc62⟩ := hr6.shape
                      try simp only [List.length_append, List.length_cons, List.length_nil, Nat.zero_add] at hr6 hlen5
                      have hr7 := hr5.grow hb6
                      go_wp2_with fail
                      refine (equal_any _ _ _ _ _ _ (row) (row) _ _ _ (RD.of_row' hr6) (RD.of_row' hr7) (Nat.le_refl _) (Nat.le_refl _) (by first | omega | (simp <;> omega)) (by first | omega | (simp <;> omega))).mono ?_
                      rintro e w7 ⟨rfl, hb7⟩
                      rw [decide_eq_true rfl]
                      have hJ9 := (HJ.out.grow hb6).grow hb7
                      clear ho5 hv5 hr5 hdis5 hb5 hr6 hb6 hr7 hb7 HJ
                      go_wp2
                      go_roundw
                      case rel => exact ⟨k + 1, nx, row, by omega, by go_num, rfl, hJ9⟩
                      case measure => simp [intOf]; omega
              · have dt : (t != (i : Int)) = true := by simpa using hti
                go_wp2_with fail
                refine (free_not g i (by omega) _ ho (hmi.out.trans (by simp [hti]))).mono ?_
                rintro e w8 ⟨rfl, nq, rfl⟩
                have hK := HI.out.drewN nq
                clear ho hr hdis HI
                as_aux_lemma =>
                  have HJ := Lib.hid (hK)
                  clear hcell hri
                  go_wp2_with fail
                  go_loopw [22] (fun jj w5 => ∃ q : Int, -1 ≤ q ∧ q ≤ 5 ∧ jj = .int .i64 q ∧ SpI w w5 g _ (nx) (t :: row) (t :: row)) (fun jj _ => (5 - intOf jj).toNat)
                  case atStart => exact ⟨-1, by omega, by omega, rfl, HJ.out⟩
                  case round =>
                    clear HJ
                    rename_i w5
                    obtain ⟨q, hq1, hq2, rfl, hJ⟩ := hrel
                    have HJ := Lib.hid hJ
                    obtain ⟨cl5, hs5, tk5, ho5, hv5, hr5, hdis5, hb5⟩ := hJ
                    by_cases hq5 : q < 5
                    · by_cases hq0 : q < 0
                      · have dq : decide (q < 0) = true := by simpa using hq0
                        go_wp2_with fail
                        refine (mine_bad g q _ (.inl hq0)).mono ?_
                        rintro e w6 ⟨rfl, rfl⟩
                        clear ho5 hr5
                        go_wp2
                        go_roundw
                        case rel => exact ⟨_, by omega, by omega, rfl, HJ.out⟩
                        case measure => simp [intOf]; omega
                      have dq : decide (q < 0) = false := by simpa using hq0
                      by_cases hq3 : 3 < q
                      · have dq3 : decide (3 < q) = true := by simpa using hq3
                        go_wp2_with fail
                        refine (mine_bad g q _ (.inr (by omega))).mono ?_
                        rintro e w6 ⟨rfl, rfl⟩
                        clear ho5 hr5
                        go_wp2
                        go_roundw
                        case rel => exact ⟨_, by omega, by omega, rfl, HJ.out⟩
                        case measure => simp [intOf]; omega
                      have dq3 : decide (3 < q) = false := by simpa using hq3
                      obtain ⟨ii, rfl⟩ : ∃ ii : Nat, q = ii := ⟨q.toNat, by omega⟩
                      have hm5 := Lib.hid (hv5.mine ho5.cl ii (by omega))
                      have hlen5 := hv5.len
                      have h0 : 0 < (t :: row).length := by simp
                      have dz : decide (0 < (t :: row).length) = true := by simp
                      obtain ⟨b5, o5, e5, hb55, hc5⟩ := RD.at_ (RD.of_row' hr5) (i := 0) (by first | exact h0 | (simp at h0 ⊢ <;> omega))
                      cases e5
                      rw [Nat.add_zero] at hc5
                      generalize (t :: row).getD 0 0 = t5 at *
                      by_cases ht : t5 = ii
                      · have dt : (t5 == (ii : Int)) = true := by simpa using ht
                        have hb6 := Lib.hid (show _ = true from hm5.out.trans (by rw [dz, decide_eq_true ht]; rfl))
                        clear ht hm5
                        go_wp2_with fail
                        refine (mine_is g ii (by omega) _ ho5 hb6.out).mono ?_
                        rintro e w6 ⟨rfl, nq, rfl⟩
                        have HJ2 := Lib.hid (HJ.out.drewN nq)
                        clear ho5 hr5
                        go_wp2
                        go_roundw
                        case rel => exact ⟨_, by omega, by omega, rfl, HJ2.out⟩
                        case measure => simp [intOf]; omega
                      · have dt : (t5 == (ii : Int)) = false := by simpa using ht
                        have hb6 := Lib.hid (show _ = false from hm5.out.trans (by rw [decide_eq_false ht]; simp))
                        clear hm5
                        go_wp2_with fail
                        refine (mine_is g ii (by omega) _ ho5 hb6.out).mono ?_
                        rintro e w6 ⟨rfl, nq, rfl⟩
                        have HJ2 := Lib.hid (HJ.out.drewN nq)
                        clear ho5 hr5
                        go_wp2
                        go_roundw
                        case rel => exact ⟨_, by omega, by omega, rfl, HJ2.out⟩
                        case measure => simp [intOf]; omega
                    · obtain rfl : q = 5 := by omega
                      have hlen5 := hv5.len
                      go_wp2_with fail
                      refine (lockRow_any g _ ho5 hv5).mono ?_
                      rintro e w6 ⟨v, rfl, hr6, hb6⟩
                      obtain ⟨A6, c6, rfl, hc61, hc62⟩ := hr6.shape
                      try simp only [List.length_append, List.length_cons, List.length_nil, Nat.zero_add] at hr6 hlen5
                      have hr7 := hr5.grow hb6
                      go_wp2_with fail
                      refine (equal_any _ _ _ _ _ _ (t :: row) (t :: row) _ _ _ (RD.of_row' hr6) (RD.of_row' hr7) (Nat.le_refl _) (Nat.le_refl _) (by first | omega | (simp <;> omega)) (by first | omega | (simp <;> omega))).mono ?_
                      rintro e w7 ⟨rfl, hb7⟩
                      rw [decide_eq_true rfl]
                      have hJ9 := (HJ.out.grow hb6).grow hb7
                      clear ho5 hv5 hr5 hdis5 hb5 hr6 hb6 hr7 hb7 HJ
                      go_wp2
                      go_roundw
                      case rel => exact ⟨k + 1, nx, t :: row, by omega, by go_num, rfl, hJ9⟩
                      case measure => simp [intOf]; omega
          have e2 : (y == 2) = false := by simpa using hy2
          clear ho hr hdis
          as_aux_lemma =>
            have HJ := Lib.hid (HI.out)
            clear hcell hri
            go_wp2_with fail
            go_loopw [22] (fun jj w5 => ∃ q : Int, -1 ≤ q ∧ q ≤ 5 ∧ jj = .int .i64 q ∧ SpI w w5 g _ (nx) (row) (row)) (fun jj _ => (5 - intOf jj).toNat)
            case atStart => exact ⟨-1, by omega, by omega, rfl, HJ.out⟩
            case round =>
              clear HJ
              rename_i w5
              obtain ⟨q, hq1, hq2, rfl, hJ⟩ := hrel
              have HJ := Lib.hid hJ
              obtain ⟨cl5, hs5, tk5, ho5, hv5, hr5, hdis5, hb5⟩ := hJ
              by_cases hq5 : q < 5
              · by_cases hq0 : q < 0
                · have dq : decide (q < 0) = true := by simpa using hq0
                  go_wp2_with fail
                  refine (mine_bad g q _ (.inl hq0)).mono ?_
                  rintro e w6 ⟨rfl, rfl⟩
                  clear ho5 hr5
                  go_wp2
                  go_roundw
                  case rel => exact ⟨_, by omega, by omega, rfl, HJ.out⟩
                  case measure => simp [intOf]; omega
                have dq : decide (q < 0) = false := by simpa using hq0
                by_cases hq3 : 3 < q
                · have dq3 : decide (3 < q) = true := by simpa using hq3
                  go_wp2_with fail
                  refine (mine_bad g q _ (.inr (by omega))).mono ?_
                  rintro e w6 ⟨rfl, rfl⟩
                  clear ho5 hr5
                  go_wp2
                  go_roundw
                  case rel => exact ⟨_, by omega, by omega, rfl, HJ.out⟩
                  case measure => simp [intOf]; omega
                have dq3 : decide (3 < q) = false := by simpa using hq3
                obtain ⟨ii, rfl⟩ : ∃ ii : Nat, q = ii := ⟨q.toNat, by omega⟩
                have hm5 := Lib.hid (hv5.mine ho5.cl ii (by omega))
                have hlen5 := hv5.len
                by_cases h0 : 0 < (row).length
                · have dz : decide (0 < (row).length) = true := by simpa using h0
                  obtain ⟨b5, o5, e5, hb55, hc5⟩ := RD.at_ (RD.of_row' hr5) (i := 0) (by first | exact h0 | (simp at h0 ⊢ <;> omega))
                  cases e5
                  rw [Nat.add_zero] at hc5
                  generalize (row).getD 0 0 = t5 at *
                  by_cases ht : t5 = ii
                  · have dt : (t5 == (ii : Int)) = true := by simpa using ht
                    have hb6 := Lib.hid (show _ = true from hm5.out.trans (by rw [dz, decide_eq_true ht]; rfl))
                    clear ht hm5
                    go_wp2_with fail
                    refine (mine_is g ii (by omega) _ ho5 hb6.out).mono ?_
                    rintro e w6 ⟨rfl, nq, rfl⟩
                    have HJ2 := Lib.hid (HJ.out.drewN nq)
                    clear ho5 hr5
                    go_wp2
                    go_roundw
                    case rel => exact ⟨_, by omega, by omega, rfl, HJ2.out⟩
                    case measure => simp [intOf]; omega
                  · have dt : (t5 == (ii : Int)) = false := by simpa using ht
                    have hb6 := Lib.hid (show _ = false from hm5.out.trans (by rw [decide_eq_false ht]; simp))
                    clear hm5
                    go_wp2_with fail
                    refine (mine_is g ii (by omega) _ ho5 hb6.out).mono ?_
                    rintro e w6 ⟨rfl, nq, rfl⟩
                    have HJ2 := Lib.hid (HJ.out.drewN nq)
                    clear ho5 hr5
                    go_wp2
                    go_roundw
                    case rel => exact ⟨_, by omega, by omega, rfl, HJ2.out⟩
                    case measure => simp [intOf]; omega
                · have dz : decide (0 < (row).length) = false := by simpa using h0
                  have hb6 := Lib.hid (show _ = false from hm5.out.trans (by rw [dz]; rfl))
                  clear hm5
                  go_wp2_with fail
                  refine (mine_is g ii (by omega) _ ho5 hb6.out).mono ?_
                  rintro e w6 ⟨rfl, nq, rfl⟩
                  have HJ2 := Lib.hid (HJ.out.drewN nq)
                  clear ho5 hr5
                  go_wp2
                  go_roundw
                  case rel => exact ⟨_, by omega, by omega, rfl, HJ2.out⟩
                  case measure => simp [intOf]; omega
              · obtain rfl : q = 5 := by omega
                have hlen5 := hv5.len
                go_wp2_with fail
                refine (lockRow_any g _ ho5 hv5).mono ?_
                rintro e w6 ⟨v, rfl, hr6, hb6⟩
                obtain ⟨A6, c6, rfl, hc61, hc62⟩ := hr6.shape
                try simp only [List.length_append, List.length_cons, List.length_nil, Nat.zero_add] at hr6 hlen5
                have hr7 := hr5.grow hb6
                go_wp2_with fail
                refine (equal_any _ _ _ _ _ _ (row) (row) _ _ _ (RD.of_row' hr6) (RD.of_row' hr7) (Nat.le_refl _) (Nat.le_refl _) (by first | omega | (simp <;> omega)) (by first | omega | (simp <;> omega))).mono ?_
                rintro e w7 ⟨rfl, hb7⟩
                rw [decide_eq_true rfl]
                have hJ9 := (HJ.out.grow hb6).grow hb7
                clear ho5 hv5 hr5 hdis5 hb5 hr6 hb6 hr7 hb7 HJ
                go_wp2
                go_roundw
                case rel => exact ⟨k + 1, nx, row, by omega, by go_num, rfl, hJ9⟩
                case measure => simp [intOf]; omega
        · have dx4 : decide (x < 4) = false := by simpa using hx4
          go_wp2_with fail
          refine (at_any Ap np cp xs 0 _ _ (RD.of_ri hri) hnp (by omega)).mono ?_
          rintro e w4 ⟨rfl, rfl⟩
          generalize xs.getD 0 0 = y at *
          by_cases hy1 : y = 1
          · have HY := Lib.hid hy1
            have e1 : (y == 1) = true := by simpa using hy1
            clear hy1
            go_wp2_with fail
            refine (take_bad g x _ (by omega)).mono ?_
            rintro e w8 ⟨rfl, rfl⟩
            clear ho hr hdis
            as_aux_lemma =>
              have HJ := Lib.hid (HI.out)
              clear hcell hri
              go_wp2_with fail
              go_loopw [22] (fun jj w5 => ∃ q : Int, -1 ≤ q ∧ q ≤ 5 ∧ jj = .int .i64 q ∧ SpI w w5 g _ (nx) (row) (row)) (fun jj _ => (5 - intOf jj).toNat)
              case atStart => exact ⟨-1, by omega, by omega, rfl, HJ.out⟩
              case round =>
                clear HJ
                rename_i w5
                obtain ⟨q, hq1, hq2, rfl, hJ⟩ := hrel
                have HJ := Lib.hid hJ
                obtain ⟨cl5, hs5, tk5, ho5, hv5, hr5, hdis5, hb5⟩ := hJ
                by_cases hq5 : q < 5
                · by_cases hq0 : q < 0
                  · have dq : decide (q < 0) = true := by simpa using hq0
                    go_wp2_with fail
                    refine (mine_bad g q _ (.inl hq0)).mono ?_
                    rintro e w6 ⟨rfl, rfl⟩
                    clear ho5 hr5
                    go_wp2
                    go_roundw
                    case rel => exact ⟨_, by omega, by omega, rfl, HJ.out⟩
                    case measure => simp [intOf]; omega
                  have dq : decide (q < 0) = false := by simpa using hq0
                  by_cases hq3 : 3 < q
                  · have dq3 : decide (3 < q) = true := by simpa using hq3
                    go_wp2_with fail
                    refine (mine_bad g q _ (.inr (by omega))).mono ?_
                    rintro e w6 ⟨rfl, rfl⟩
                    clear ho5 hr5
                    go_wp2
                    go_roundw
                    case rel => exact ⟨_, by omega, by omega, rfl, HJ.out⟩
                    case measure => simp [intOf]; omega
                  have dq3 : decide (3 < q) = false := by simpa using hq3
                  obtain ⟨ii, rfl⟩ : ∃ ii : Nat, q = ii := ⟨q.toNat, by omega⟩
                  have hm5 := Lib.hid (hv5.mine ho5.cl ii (by omega))
                  have hlen5 := hv5.len
                  by_cases h0 : 0 < (row).length
                  · have dz : decide (0 < (row).length) = true := by simpa using h0
                    obtain ⟨b5, o5, e5, hb55, hc5⟩ := RD.at_ (RD.of_row' hr5) (i := 0) (by first | exact h0 | (simp at h0 ⊢ <;> omega))
                    cases e5
                    rw [Nat.add_zero] at hc5
                    generalize (row).getD 0 0 = t5 at *
                    by_cases ht : t5 = ii
                    · have dt : (t5 == (ii : Int)) = true := by simpa using ht
                      have hb6 := Lib.hid (show _ = true from hm5.out.trans (by rw [dz, decide_eq_true ht]; rfl))
                      clear ht hm5
                      go_wp2_with fail
                      refine (mine_is g ii (by omega) _ ho5 hb6.out).mono ?_
                      rintro e w6 ⟨rfl, nq, rfl⟩
                      have HJ2 := Lib.hid (HJ.out.drewN nq)
                      clear ho5 hr5
                      go_wp2
                      go_roundw
                      case rel => exact ⟨_, by omega, by omega, rfl, HJ2.out⟩
                      case measure => simp [intOf]; omega
                    · have dt : (t5 == (ii : Int)) = false := by simpa using ht
                      have hb6 := Lib.hid (show _ = false from hm5.out.trans (by rw [decide_eq_false ht]; simp))
                      clear hm5
                      go_wp2_with fail
                      refine (mine_is g ii (by omega) _ ho5 hb6.out).mono ?_
                      rintro e w6 ⟨rfl, nq, rfl⟩
                      have HJ2 := Lib.hid (HJ.out.drewN nq)
                      clear ho5 hr5
                      go_wp2
                      go_roundw
                      case rel => exact ⟨_, by omega, by omega, rfl, HJ2.out⟩
                      case measure => simp [intOf]; omega
                  · have dz : decide (0 < (row).length) = false := by simpa using h0
                    have hb6 := Lib.hid (show _ = false from hm5.out.trans (by rw [dz]; rfl))
                    clear hm5
                    go_wp2_with fail
                    refine (mine_is g ii (by omega) _ ho5 hb6.out).mono ?_
                    rintro e w6 ⟨rfl, nq, rfl⟩
                    have HJ2 := Lib.hid (HJ.out.drewN nq)
                    clear ho5 hr5
                    go_wp2
                    go_roundw
                    case rel => exact ⟨_, by omega, by omega, rfl, HJ2.out⟩
                    case measure => simp [intOf]; omega
                · obtain rfl : q = 5 := by omega
                  have hlen5 := hv5.len
                  go_wp2_with fail
                  refine (lockRow_any g _ ho5 hv5).mono ?_
                  rintro e w6 ⟨v, rfl, hr6, hb6⟩
                  obtain ⟨A6, c6, rfl, hc61, hc62⟩ := hr6.shape
                  try simp only [List.length_append, List.length_cons, List.length_nil, Nat.zero_add] at hr6 hlen5
                  have hr7 := hr5.grow hb6
                  go_wp2_with fail
                  refine (equal_any _ _ _ _ _ _ (row) (row) _ _ _ (RD.of_row' hr6) (RD.of_row' hr7) (Nat.le_refl _) (Nat.le_refl _) (by first | omega | (simp <;> omega)) (by first | omega | (simp <;> omega))).mono ?_
                  rintro e w7 ⟨rfl, hb7⟩
                  rw [decide_eq_true rfl]
                  have hJ9 := (HJ.out.grow hb6).grow hb7
                  clear ho5 hv5 hr5 hdis5 hb5 hr6 hb6 hr7 hb7 HJ
                  go_wp2
                  go_roundw
                  case rel => exact ⟨k + 1, nx, row, by omega, by go_num, rfl, hJ9⟩
                  case measure => simp [intOf]; omega
          have e1 : (y == 1) = false := by simpa using hy1
          by_cases hy2 : y = 2
          · have HY := Lib.hid hy2
            have e2 : (y == 2) = true := by simpa using hy2
            clear hy1 hy2
            go_wp2_with fail
            refine (free_bad g x _ (by omega)).mono ?_
            rintro e w8 ⟨rfl, nq, rfl⟩
            have hK := HI.out.drewN nq
            clear ho hr hdis HI
            as_aux_lemma =>
              have HJ := Lib.hid (hK)
              clear hcell hri
              go_wp2_with fail
              go_loopw [22] (fun jj w5 => ∃ q : Int, -1 ≤ q ∧ q ≤ 5 ∧ jj = .int .i64 q ∧ SpI w w5 g _ (nx) (row) (row)) (fun jj _ => (5 - intOf jj).toNat)
              case atStart => exact ⟨-1, by omega, by omega, rfl, HJ.out⟩
              case round =>
                clear HJ
                rename_i w5
                obtain ⟨q, hq1, hq2, rfl, hJ⟩ := hrel
                have HJ := Lib.hid hJ
                obtain ⟨cl5, hs5, tk5, ho5, hv5, hr5, hdis5, hb5⟩ := hJ
                by_cases hq5 : q < 5
                · by_cases hq0 : q < 0
                  · have dq : decide (q < 0) = true := by simpa using hq0
                    go_wp2_with fail
                    refine (mine_bad g q _ (.inl hq0)).mono ?_
                    rintro e w6 ⟨rfl, rfl⟩
                    clear ho5 hr5
                    go_wp2
                    go_roundw
                    case rel => exact ⟨_, by omega, by omega, rfl, HJ.out⟩
                    case measure => simp [intOf]; omega
                  have dq : decide (q < 0) = false := by simpa using hq0
                  by_cases hq3 : 3 < q
                  · have dq3 : decide (3 < q) = true := by simpa using hq3
                    go_wp2_with fail
                    refine (mine_bad g q _ (.inr (by omega))).mono ?_
                    rintro e w6 ⟨rfl, rfl⟩
                    clear ho5 hr5
                    go_wp2
                    go_roundw
                    case rel => exact ⟨_, by omega, by omega, rfl, HJ.out⟩
                    case measure => simp [intOf]; omega
                  have dq3 : decide (3 < q) = false := by simpa using hq3
                  obtain ⟨ii, rfl⟩ : ∃ ii : Nat, q = ii := ⟨q.toNat, by omega⟩
                  have hm5 := Lib.hid (hv5.mine ho5.cl ii (by omega))
                  have hlen5 := hv5.len
                  by_cases h0 : 0 < (row).length
                  · have dz : decide (0 < (row).length) = true := by simpa using h0
                    obtain ⟨b5, o5, e5, hb55, hc5⟩ := RD.at_ (RD.of_row' hr5) (i := 0) (by first | exact h0 | (simp at h0 ⊢ <;> omega))
                    cases e5
                    rw [Nat.add_zero] at hc5
                    generalize (row).getD 0 0 = t5 at *
                    by_cases ht : t5 = ii
                    · have dt : (t5 == (ii : Int)) = true := by simpa using ht
                      have hb6 := Lib.hid (show _ = true from hm5.out.trans (by rw [dz, decide_eq_true ht]; rfl))
                      clear ht hm5
                      go_wp2_with fail
                      refine (mine_is g ii (by omega) _ ho5 hb6.out).mono ?_
                      rintro e w6 ⟨rfl, nq, rfl⟩
                      have HJ2 := Lib.hid (HJ.out.drewN nq)
                      clear ho5 hr5
                      go_wp2
                      go_roundw
                      case rel => exact ⟨_, by omega, by omega, rfl, HJ2.out⟩
                      case measure => simp [intOf]; omega
                    · have dt : (t5 == (ii : Int)) = false := by simpa using ht
                      have hb6 := Lib.hid (show _ = false from hm5.out.trans (by rw [decide_eq_false ht]; simp))
                      clear hm5
                      go_wp2_with fail
                      refine (mine_is g ii (by omega) _ ho5 hb6.out).mono ?_
                      rintro e w6 ⟨rfl, nq, rfl⟩
                      have HJ2 := Lib.hid (HJ.out.drewN nq)
                      clear ho5 hr5
                      go_wp2
                      go_roundw
                      case rel => exact ⟨_, by omega, by omega, rfl, HJ2.out⟩
                      case measure => simp [intOf]; omega
                  · have dz : decide (0 < (row).length) = false := by simpa using h0
                    have hb6 := Lib.hid (show _ = false from hm5.out.trans (by rw [dz]; rfl))
                    clear hm5
                    go_wp2_with fail
                    refine (mine_is g ii (by omega) _ ho5 hb6.out).mono ?_
                    rintro e w6 ⟨rfl, nq, rfl⟩
                    have HJ2 := Lib.hid (HJ.out.drewN nq)
                    clear ho5 hr5
                    go_wp2
                    go_roundw
                    case rel => exact ⟨_, by omega, by omega, rfl, HJ2.out⟩
                    case measure => simp [intOf]; omega
                · obtain rfl : q = 5 := by omega
                  have hlen5 := hv5.len
                  go_wp2_with fail
                  refine (lockRow_any g _ ho5 hv5).mono ?_
                  rintro e w6 ⟨v, rfl, hr6, hb6⟩
                  obtain ⟨A6, c6, rfl, hc61, hc62⟩ := hr6.shape
                  try simp only [List.length_append, List.length_cons, List.length_nil, Nat.zero_add] at hr6 hlen5
                  have hr7 := hr5.grow hb6
                  go_wp2_with fail
                  refine (equal_any _ _ _ _ _ _ (row) (row) _ _ _ (RD.of_row' hr6) (RD.of_row' hr7) (Nat.le_refl _) (Nat.le_refl _) (by first | omega | (simp <;> omega)) (by first | omega | (simp <;> omega))).mono ?_
                  rintro e w7 ⟨rfl, hb7⟩
                  rw [decide_eq_true rfl]
                  have hJ9 := (HJ.out.grow hb6).grow hb7
                  clear ho5 hv5 hr5 hdis5 hb5 hr6 hb6 hr7 hb7 HJ
                  go_wp2
                  go_roundw
                  case rel => exact ⟨k + 1, nx, row, by omega, by go_num, rfl, hJ9⟩
                  case measure => simp [intOf]; omega
          have e2 : (y == 2) = false := by simpa using hy2
          clear ho hr hdis
          as_aux_lemma =>
            have HJ := Lib.hid (HI.out)
            clear hcell hri
            go_wp2_with fail
            go_loopw [22] (fun jj w5 => ∃ q : Int, -1 ≤ q ∧ q ≤ 5 ∧ jj = .int .i64 q ∧ SpI w w5 g _ (nx) (row) (row)) (fun jj _ => (5 - intOf jj).toNat)
            case atStart => exact ⟨-1, by omega, by omega, rfl, HJ.out⟩
            case round =>
              clear HJ
              rename_i w5
              obtain ⟨q, hq1, hq2, rfl, hJ⟩ := hrel
              have HJ := Lib.hid hJ
              obtain ⟨cl5, hs5, tk5, ho5, hv5, hr5, hdis5, hb5⟩ := hJ
              by_cases hq5 : q < 5
              · by_cases hq0 : q < 0
                · have dq : decide (q < 0) = true := by simpa using hq0
                  go_wp2_with fail
                  refine (mine_bad g q _ (.inl hq0)).mono ?_
                  rintro e w6 ⟨rfl, rfl⟩
                  clear ho5 hr5
                  go_wp2
                  go_roundw
                  case rel => exact ⟨_, by omega, by omega, rfl, HJ.out⟩
                  case measure => simp [intOf]; omega
                have dq : decide (q < 0) = false := by simpa using hq0
                by_cases hq3 : 3 < q
                · have dq3 : decide (3 < q) = true := by simpa using hq3
                  go_wp2_with fail
                  refine (mine_bad g q _ (.inr (by omega))).mono ?_
                  rintro e w6 ⟨rfl, rfl⟩
                  clear ho5 hr5
                  go_wp2
                  go_roundw
                  case rel => exact ⟨_, by omega, by omega, rfl, HJ.out⟩
                  case measure => simp [intOf]; omega
                have dq3 : decide (3 < q) = false := by simpa using hq3
                obtain ⟨ii, rfl⟩ : ∃ ii : Nat, q = ii := ⟨q.toNat, by omega⟩
                have hm5 := Lib.hid (hv5.mine ho5.cl ii (by omega))
                have hlen5 := hv5.len
                by_cases h0 : 0 < (row).length
                · have dz : decide (0 < (row).length) = true := by simpa using h0
                  obtain ⟨b5, o5, e5, hb55, hc5⟩ := RD.at_ (RD.of_row' hr5) (i := 0) (by first | exact h0 | (simp at h0 ⊢ <;> omega))
                  cases e5
                  rw [Nat.add_zero] at hc5
                  generalize (row).getD 0 0 = t5 at *
                  by_cases ht : t5 = ii
                  · have dt : (t5 == (ii : Int)) = true := by simpa using ht
                    have hb6 := Lib.hid (show _ = true from hm5.out.trans (by rw [dz, decide_eq_true ht]; rfl))
                    clear ht hm5
                    go_wp2_with fail
                    refine (mine_is g ii (by omega) _ ho5 hb6.out).mono ?_
                    rintro e w6 ⟨rfl, nq, rfl⟩
                    have HJ2 := Lib.hid (HJ.out.drewN nq)
                    clear ho5 hr5
                    go_wp2
                    go_roundw
                    case rel => exact ⟨_, by omega, by omega, rfl, HJ2.out⟩
                    case measure => simp [intOf]; omega
                  · have dt : (t5 == (ii : Int)) = false := by simpa using ht
                    have hb6 := Lib.hid (show _ = false from hm5.out.trans (by rw [decide_eq_false ht]; simp))
                    clear hm5
                    go_wp2_with fail
                    refine (mine_is g ii (by omega) _ ho5 hb6.out).mono ?_
                    rintro e w6 ⟨rfl, nq, rfl⟩
                    have HJ2 := Lib.hid (HJ.out.drewN nq)
                    clear ho5 hr5
                    go_wp2
                    go_roundw
                    case rel => exact ⟨_, by omega, by omega, rfl, HJ2.out⟩
                    case measure => simp [intOf]; omega
                · have dz : decide (0 < (row).length) = false := by simpa using h0
                  have hb6 := Lib.hid (show _ = false from hm5.out.trans (by rw [dz]; rfl))
                  clear hm5
                  go_wp2_with fail
                  refine (mine_is g ii (by omega) _ ho5 hb6.out).mono ?_
                  rintro e w6 ⟨rfl, nq, rfl⟩
                  have HJ2 := Lib.hid (HJ.out.drewN nq)
                  clear ho5 hr5
                  go_wp2
                  go_roundw
                  case rel => exact ⟨_, by omega, by omega, rfl, HJ2.out⟩
                  case measure => simp [intOf]; omega
              · obtain rfl : q = 5 := by omega
                have hlen5 := hv5.len
                go_wp2_with fail
                refine (lockRow_any g _ ho5 hv5).mono ?_
                rintro e w6 ⟨v, rfl, hr6, hb6⟩
                obtain ⟨A6, c6, rfl, hc61, hc62⟩ := hr6.shape
                try simp only [List.length_append, List.length_cons, List.length_nil, Nat.zero_add] at hr6 hlen5
                have hr7 := hr5.grow hb6
                go_wp2_with fail
                refine (equal_any _ _ _ _ _ _ (row) (row) _ _ _ (RD.of_row' hr6) (RD.of_row' hr7) (Nat.le_refl _) (Nat.le_refl _) (by first | omega | (simp <;> omega)) (by first | omega | (simp <;> omega))).mono ?_
                rintro e w7 ⟨rfl, hb7⟩
                rw [decide_eq_true rfl]
                have hJ9 := (HJ.out.grow hb6).grow hb7
                clear ho5 hv5 hr5 hdis5 hb5 hr6 hb6 hr7 hb7 HJ
                go_wp2
                go_roundw
                case rel => exact ⟨k + 1, nx, row, by omega, by go_num, rfl, hJ9⟩
                case measure => simp [intOf]; omega
      · have dx0 : decide (0 ≤ x) = false := by simpa using hx0
        go_wp2_with fail
        refine (at_any Ap np cp xs 0 _ _ (RD.of_ri hri) hnp (by omega)).mono ?_
        rintro e w4 ⟨rfl, rfl⟩
        generalize xs.getD 0 0 = y at *
        by_cases hy1 : y = 1
        · have HY := Lib.hid hy1
          have e1 : (y == 1) = true := by simpa using hy1
          clear hy1
          go_wp2_with fail
          refine (take_bad g x _ (by omega)).mono ?_
          rintro e w8 ⟨rfl, rfl⟩
          clear ho hr hdis
          as_aux_lemma =>
            have HJ := Lib.hid (HI.out)
            clear hcell hri
            go_wp2_with fail
            go_loopw [22] (fun jj w5 => ∃ q : Int, -1 ≤ q ∧ q ≤ 5 ∧ jj = .int .i64 q ∧ SpI w w5 g _ (nx) (row) (row)) (fun jj _ => (5 - intOf jj).toNat)
            case atStart => exact ⟨-1, by omega, by omega, rfl, HJ.out⟩
            case round =>
              clear HJ
              rename_i w5
              obtain ⟨q, hq1, hq2, rfl, hJ⟩ := hrel
              have HJ := Lib.hid hJ
              obtain ⟨cl5, hs5, tk5, ho5, hv5, hr5, hdis5, hb5⟩ := hJ
              by_cases hq5 : q < 5
              · by_cases hq0 : q < 0
                · have dq : decide (q < 0) = true := by simpa using hq0
                  go_wp2_with fail
                  refine (mine_bad g q _ (.inl hq0)).mono ?_
                  rintro e w6 ⟨rfl, rfl⟩
                  clear ho5 hr5
                  go_wp2
                  go_roundw
                  case rel => exact ⟨_, by omega, by omega, rfl, HJ.out⟩
                  case measure => simp [intOf]; omega
                have dq : decide (q < 0) = false := by simpa using hq0
                by_cases hq3 : 3 < q
                · have dq3 : decide (3 < q) = true := by simpa using hq3
                  go_wp2_with fail
                  refine (mine_bad g q _ (.inr (by omega))).mono ?_
                  rintro e w6 ⟨rfl, rfl⟩
                  clear ho5 hr5
                  go_wp2
                  go_roundw
                  case rel => exact ⟨_, by omega, by omega, rfl, HJ.out⟩
                  case measure => simp [intOf]; omega
                have dq3 : decide (3 < q) = false := by simpa using hq3
                obtain ⟨ii, rfl⟩ : ∃ ii : Nat, q = ii := ⟨q.toNat, by omega⟩
                have hm5 := Lib.hid (hv5.mine ho5.cl ii (by omega))
                have hlen5 := hv5.len
                by_cases h0 : 0 < (row).length
                · have dz : decide (0 < (row).length) = true := by simpa using h0
                  obtain ⟨b5, o5, e5, hb55, hc5⟩ := RD.at_ (RD.of_row' hr5) (i := 0) (by first | exact h0 | (simp at h0 ⊢ <;> omega))
                  cases e5
                  rw [Nat.add_zero] at hc5
                  generalize (row).getD 0 0 = t5 at *
                  by_cases ht : t5 = ii
                  · have dt : (t5 == (ii : Int)) = true := by simpa using ht
                    have hb6 := Lib.hid (show _ = true from hm5.out.trans (by rw [dz, decide_eq_true ht]; rfl))
                    clear ht hm5
                    go_wp2_with fail
                    refine (mine_is g ii (by omega) _ ho5 hb6.out).mono ?_
                    rintro e w6 ⟨rfl, nq, rfl⟩
                    have HJ2 := Lib.hid (HJ.out.drewN nq)
                    clear ho5 hr5
                    go_wp2
                    go_roundw
                    case rel => exact ⟨_, by omega, by omega, rfl, HJ2.out⟩
                    case measure => simp [intOf]; omega
                  · have dt : (t5 == (ii : Int)) = false := by simpa using ht
                    have hb6 := Lib.hid (show _ = false from hm5.out.trans (by rw [decide_eq_false ht]; simp))
                    clear hm5
                    go_wp2_with fail
                    refine (mine_is g ii (by omega) _ ho5 hb6.out).mono ?_
                    rintro e w6 ⟨rfl, nq, rfl⟩
                    have HJ2 := Lib.hid (HJ.out.drewN nq)
                    clear ho5 hr5
                    go_wp2
                    go_roundw
                    case rel => exact ⟨_, by omega, by omega, rfl, HJ2.out⟩
                    case measure => simp [intOf]; omega
                · have dz : decide (0 < (row).length) = false := by simpa using h0
                  have hb6 := Lib.hid (show _ = false from hm5.out.trans (by rw [dz]; rfl))
                  clear hm5
                  go_wp2_with fail
                  refine (mine_is g ii (by omega) _ ho5 hb6.out).mono ?_
                  rintro e w6 ⟨rfl, nq, rfl⟩
                  have HJ2 := Lib.hid (HJ.out.drewN nq)
                  clear ho5 hr5
                  go_wp2
                  go_roundw
                  case rel => exact ⟨_, by omega, by omega, rfl, HJ2.out⟩
                  case measure => simp [intOf]; omega
              · obtain rfl : q = 5 := by omega
                have hlen5 := hv5.len
                go_wp2_with fail
                refine (lockRow_any g _ ho5 hv5).mono ?_
                rintro e w6 ⟨v, rfl, hr6, hb6⟩
                obtain ⟨A6, c6, rfl, hc61, hc62⟩ := hr6.shape
                try simp only [List.length_append, List.length_cons, List.length_nil, Nat.zero_add] at hr6 hlen5
                have hr7 := hr5.grow hb6
                go_wp2_with fail
                refine (equal_any _ _ _ _ _ _ (row) (row) _ _ _ (RD.of_row' hr6) (RD.of_row' hr7) (Nat.le_refl _) (Nat.le_refl _) (by first | omega | (simp <;> omega)) (by first | omega | (simp <;> omega))).mono ?_
                rintro e w7 ⟨rfl, hb7⟩
                rw [decide_eq_true rfl]
                have hJ9 := (HJ.out.grow hb6).grow hb7
                clear ho5 hv5 hr5 hdis5 hb5 hr6 hb6 hr7 hb7 HJ
                go_wp2
                go_roundw
                case rel => exact ⟨k + 1, nx, row, by omega, by go_num, rfl, hJ9⟩
                case measure => simp [intOf]; omega
        have e1 : (y == 1) = false := by simpa using hy1
        by_cases hy2 : y = 2
        · have HY := Lib.hid hy2
          have e2 : (y == 2) = true := by simpa using hy2
          clear hy1 hy2
          go_wp2_with fail
          refine (free_bad g x _ (by omega)).mono ?_
          rintro e w8 ⟨rfl, nq, rfl⟩
          have hK := HI.out.drewN nq
          clear ho hr hdis HI
          as_aux_lemma =>
            have HJ := Lib.hid (hK)
            clear hcell hri
            go_wp2_with fail
            go_loopw [22] (fun jj w5 => ∃ q : Int, -1 ≤ q ∧ q ≤ 5 ∧ jj = .int .i64 q ∧ SpI w w5 g _ (nx) (row) (row)) (fun jj _ => (5 - intOf jj).toNat)
            case atStart => exact ⟨-1, by omega, by omega, rfl, HJ.out⟩
            case round =>
              clear HJ
              rename_i w5
              obtain ⟨q, hq1, hq2, rfl, hJ⟩ := hrel
              have HJ := Lib.hid hJ
              obtain ⟨cl5, hs5, tk5, ho5, hv5, hr5, hdis5, hb5⟩ := hJ
              by_cases hq5 : q < 5
              · by_cases hq0 : q < 0
                · have dq : decide (q < 0) = true := by simpa using hq0
                  go_wp2_with fail
                  refine (mine_bad g q _ (.inl hq0)).mono ?_
                  rintro e w6 ⟨rfl, rfl⟩
                  clear ho5 hr5
                  go_wp2
                  go_roundw
                  case rel => exact ⟨_, by omega, by omega, rfl, HJ.out⟩
                  case measure => simp [intOf]; omega
                have dq : decide (q < 0) = false := by simpa using hq0
                by_cases hq3 : 3 < q
                · have dq3 : decide (3 < q) = true := by simpa using hq3
                  go_wp2_with fail
                  refine (mine_bad g q _ (.inr (by omega))).mono ?_
                  rintro e w6 ⟨rfl, rfl⟩
                  clear ho5 hr5
                  go_wp2
                  go_roundw
                  case rel => exact ⟨_, by omega, by omega, rfl, HJ.out⟩
                  case measure => simp [intOf]; omega
                have dq3 : decide (3 < q) = false := by simpa using hq3
                obtain ⟨ii, rfl⟩ : ∃ ii : Nat, q = ii := ⟨q.toNat, by omega⟩
                have hm5 := Lib.hid (hv5.mine ho5.cl ii (by omega))
                have hlen5 := hv5.len
                by_cases h0 : 0 < (row).length
                · have dz : decide (0 < (row).length) = true := by simpa using h0
                  obtain ⟨b5, o5, e5, hb55, hc5⟩ := RD.at_ (RD.of_row' hr5) (i := 0) (by first | exact h0 | (simp at h0 ⊢ <;> omega))
                  cases e5
                  rw [Nat.add_zero] at hc5
                  generalize (row).getD 0 0 = t5 at *
                  by_cases ht : t5 = ii
                  · have dt : (t5 == (ii : Int)) = true := by simpa using ht
                    have hb6 := Lib.hid (show _ = true from hm5.out.trans (by rw [dz, decide_eq_true ht]; rfl))
                    clear ht hm5
                    go_wp2_with fail
                    refine (mine_is g ii (by omega) _ ho5 hb6.out).mono ?_
                    rintro e w6 ⟨rfl, nq, rfl⟩
                    have HJ2 := Lib.hid (HJ.out.drewN nq)
                    clear ho5 hr5
                    go_wp2
                    go_roundw
                    case rel => exact ⟨_, by omega, by omega, rfl, HJ2.out⟩
                    case measure => simp [intOf]; omega
                  · have dt : (t5 == (ii : Int)) = false := by simpa using ht
                    have hb6 := Lib.hid (show _ = false from hm5.out.trans (by rw [decide_eq_false ht]; simp))
                    clear hm5
                    go_wp2_with fail
                    refine (mine_is g ii (by omega) _ ho5 hb6.out).mono ?_
                    rintro e w6 ⟨rfl, nq, rfl⟩
                    have HJ2 := Lib.hid (HJ.out.drewN nq)
                    clear ho5 hr5
                    go_wp2
                    go_roundw
                    case rel => exact ⟨_, by omega, by omega, rfl, HJ2.out⟩
                    case measure => simp [intOf]; omega
                · have dz : decide (0 < (row).length) = false := by simpa using h0
                  have hb6 := Lib.hid (show _ = false from hm5.out.trans (by rw [dz]; rfl))
                  clear hm5
                  go_wp2_with fail
                  refine (mine_is g ii (by omega) _ ho5 hb6.out).mono ?_
                  rintro e w6 ⟨rfl, nq, rfl⟩
                  have HJ2 := Lib.hid (HJ.out.drewN nq)
                  clear ho5 hr5
                  go_wp2
                  go_roundw
                  case rel => exact ⟨_, by omega, by omega, rfl, HJ2.out⟩
                  case measure => simp [intOf]; omega
              · obtain rfl : q = 5 := by omega
                have hlen5 := hv5.len
                go_wp2_with fail
                refine (lockRow_any g _ ho5 hv5).mono ?_
                rintro e w6 ⟨v, rfl, hr6, hb6⟩
                obtain ⟨A6, c6, rfl, hc61, hc62⟩ := hr6.shape
                try simp only [List.length_append, List.length_cons, List.length_nil, Nat.zero_add] at hr6 hlen5
                have hr7 := hr5.grow hb6
                go_wp2_with fail
                refine (equal_any _ _ _ _ _ _ (row) (row) _ _ _ (RD.of_row' hr6) (RD.of_row' hr7) (Nat.le_refl _) (Nat.le_refl _) (by first | omega | (simp <;> omega)) (by first | omega | (simp <;> omega))).mono ?_
                rintro e w7 ⟨rfl, hb7⟩
                rw [decide_eq_true rfl]
                have hJ9 := (HJ.out.grow hb6).grow hb7
                clear ho5 hv5 hr5 hdis5 hb5 hr6 hb6 hr7 hb7 HJ
                go_wp2
                go_roundw
                case rel => exact ⟨k + 1, nx, row, by omega, by go_num, rfl, hJ9⟩
                case measure => simp [intOf]; omega
        have e2 : (y == 2) = false := by simpa using hy2
        clear ho hr hdis
        as_aux_lemma =>
          have HJ := Lib.hid (HI.out)
          clear hcell hri
          go_wp2_with fail
          go_loopw [22] (fun jj w5 => ∃ q : Int, -1 ≤ q ∧ q ≤ 5 ∧ jj = .int .i64 q ∧ SpI w w5 g _ (nx) (row) (row)) (fun jj _ => (5 - intOf jj).toNat)
          case atStart => exact ⟨-1, by omega, by omega, rfl, HJ.out⟩
          case round =>
            clear HJ
            rename_i w5
            obtain ⟨q, hq1, hq2, rfl, hJ⟩ := hrel
            have HJ := Lib.hid hJ
            obtain ⟨cl5, hs5, tk5, ho5, hv5, hr5, hdis5, hb5⟩ := hJ
            by_cases hq5 : q < 5
            · by_cases hq0 : q < 0
              · have dq : decide (q < 0) = true := by simpa using hq0
                go_wp2_with fail
                refine (mine_bad g q _ (.inl hq0)).mono ?_
                rintro e w6 ⟨rfl, rfl⟩
                clear ho5 hr5
                go_wp2
                go_roundw
                case rel => exact ⟨_, by omega, by omega, rfl, HJ.out⟩
                case measure => simp [intOf]; omega
              have dq : decide (q < 0) = false := by simpa using hq0
              by_cases hq3 : 3 < q
              · have dq3 : decide (3 < q) = true := by simpa using hq3
                go_wp2_with fail
                refine (mine_bad g q _ (.inr (by omega))).mono ?_
                rintro e w6 ⟨rfl, rfl⟩
                clear ho5 hr5
                go_wp2
                go_roundw
                case rel => exact ⟨_, by omega, by omega, rfl, HJ.out⟩
                case measure => simp [intOf]; omega
              have dq3 : decide (3 < q) = false := by simpa using hq3
              obtain ⟨ii, rfl⟩ : ∃ ii : Nat, q = ii := ⟨q.toNat, by omega⟩
              have hm5 := Lib.hid (hv5.mine ho5.cl ii (by omega))
              have hlen5 := hv5.len
              by_cases h0 : 0 < (row).length
              · have dz : decide (0 < (row).length) = true := by simpa using h0
                obtain ⟨b5, o5, e5, hb55, hc5⟩ := RD.at_ (RD.of_row' hr5) (i := 0) (by first | exact h0 | (simp at h0 ⊢ <;> omega))
                cases e5
                rw [Nat.add_zero] at hc5
                generalize (row).getD 0 0 = t5 at *
                by_cases ht : t5 = ii
                · have dt : (t5 == (ii : Int)) = true := by simpa using ht
                  have hb6 := Lib.hid (show _ = true from hm5.out.trans (by rw [dz, decide_eq_true ht]; rfl))
                  clear ht hm5
                  go_wp2_with fail
                  refine (mine_is g ii (by omega) _ ho5 hb6.out).mono ?_
                  rintro e w6 ⟨rfl, nq, rfl⟩
                  have HJ2 := Lib.hid (HJ.out.drewN nq)
                  clear ho5 hr5
                  go_wp2
                  go_roundw
                  case rel => exact ⟨_, by omega, by omega, rfl, HJ2.out⟩
                  case measure => simp [intOf]; omega
                · have dt : (t5 == (ii : Int)) = false := by simpa using ht
                  have hb6 := Lib.hid (show _ = false from hm5.out.trans (by rw [decide_eq_false ht]; simp))
                  clear hm5
                  go_wp2_with fail
                  refine (mine_is g ii (by omega) _ ho5 hb6.out).mono ?_
                  rintro e w6 ⟨rfl, nq, rfl⟩
                  have HJ2 := Lib.hid (HJ.out.drewN nq)
                  clear ho5 hr5
                  go_wp2
                  go_roundw
                  case rel => exact ⟨_, by omega, by omega, rfl, HJ2.out⟩
                  case measure => simp [intOf]; omega
              · have dz : decide (0 < (row).length) = false := by simpa using h0
                have hb6 := Lib.hid (show _ = false from hm5.out.trans (by rw [dz]; rfl))
                clear hm5
                go_wp2_with fail
                refine (mine_is g ii (by omega) _ ho5 hb6.out).mono ?_
                rintro e w6 ⟨rfl, nq, rfl⟩
                have HJ2 := Lib.hid (HJ.out.drewN nq)
                clear ho5 hr5
                go_wp2
                go_roundw
                case rel => exact ⟨_, by omega, by omega, rfl, HJ2.out⟩
                case measure => simp [intOf]; omega
            · obtain rfl : q = 5 := by omega
              have hlen5 := hv5.len
              go_wp2_with fail
              refine (lockRow_any g _ ho5 hv5).mono ?_
              rintro e w6 ⟨v, rfl, hr6, hb6⟩
              obtain ⟨A6, c6, rfl, hc61, hc62⟩ := hr6.shape
              try simp only [List.length_append, List.length_cons, List.length_nil, Nat.zero_add] at hr6 hlen5
              have hr7 := hr5.grow hb6
              go_wp2_with fail
              refine (equal_any _ _ _ _ _ _ (row) (row) _ _ _ (RD.of_row' hr6) (RD.of_row' hr7) (Nat.le_refl _) (Nat.le_refl _) (by first | omega | (simp <;> omega)) (by first | omega | (simp <;> omega))).mono ?_
              rintro e w7 ⟨rfl, hb7⟩
              rw [decide_eq_true rfl]
              have hJ9 := (HJ.out.grow hb6).grow hb7
              clear ho5 hv5 hr5 hdis5 hb5 hr6 hb6 hr7 hb7 HJ
              go_wp2
              go_roundw
              case rel => exact ⟨k + 1, nx, row, by omega, by go_num, rfl, hJ9⟩
              case measure => simp [intOf]; omega
    · obtain rfl : k = n := by omega
      as_aux_lemma =>
        clear ho hr hdis HI hv hlen
        unfold U16 at hpa hpb
        by_cases c1 : 32768 ≤ pb - pa
        · have d1 : decide (32768 ≤ pb - pa) = true := by simpa using c1
          have d2 : decide (pb - pa - 65536 < -32768) = false := by simp; omega
          have hq : apI pa pb = pb - pa - 65536 := by unfold apI; omega
          go_wp2_with fail
          refine (apart_any pa pb _ hpa hpb).mono ?_
          rintro e w9 ⟨rfl, rfl⟩
          rw [hq]
          go_wp2
          go_ret
          exact ⟨sl_bool (by simp), hb⟩
        · have d1 : decide (32768 ≤ pb - pa) = false := by simpa using c1
          by_cases c2 : pb - pa < -32768
          · have d2 : decide (pb - pa < -32768) = true := by simpa using c2
            have hq : apI pa pb = pb - pa + 65536 := by unfold apI; omega
            go_wp2_with fail
            refine (apart_any pa pb _ hpa hpb).mono ?_
            rintro e w9 ⟨rfl, rfl⟩
            rw [hq]
            go_wp2
            go_ret
            exact ⟨sl_bool (by simp), hb⟩
          · have d2 : decide (pb - pa < -32768) = false := by simpa using c2
            have hq : apI pa pb = pb - pa := by unfold apI; omega
            go_wp2_with fail
            refine (apart_any pa pb _ hpa hpb).mono ?_
            rintro e w9 ⟨rfl, rfl⟩
            rw [hq]
            go_wp2
            go_ret
            exact ⟨sl_bool (by simp), hb⟩
end Go.Proofs.Ytjcbnanajelpjaa
