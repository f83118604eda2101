/- Contract of the reference's Made. -/
import Derived.Test.YthlhjaacjhlkhaaPpI
namespace Go.Proofs.Ythlhjaacjhlkhaa
open Go.RowKit
set_option maxHeartbeats 400000
set_option linter.unusedVariables false
set_option linter.unusedSimpArgs false
def RetMd (w : World) (B q0 : Nat) (vL : Value) (F : Fs) (e : Ending) (w' : World) : Prop := ∃ x y F', e = .returned (.tuple #[.int .i64 x, .int .i64 y]) ∧ madeE F x y F' ∧ QGo w B q0 vL F' w'
theorem Qe.parts0 {w : World} {B q0 : Nat} {A : Option Addr} {n c i : Nat} {F : Fs} (h : Qe w B q0 (.slice A n c) F) (hi : i < 16) (hp : F i = none) :
    Row w B 59 4 (.slice A (lo F i).length c) (lo F i).length ((lo F i).flatMap Pr.cells) ∧ Row w B 59 4 (.slice (if c = (lo F i).length then A else A.map (·.add ((lo F i).length * 4))) (n - (lo F i).length) (c - (lo F i).length)) (n - (lo F i).length) ((hi_ F i).flatMap Pr.cells) := by
  obtain ⟨hn, _⟩ := h.rq
  subst hn
  have hs := all_none hi hp
  have hl : (allR F).length = (lo F i).length + (hi_ F i).length := by rw [hs]; simp [hi_]
  have h1 := h.row.take (k := (lo F i).length) (by omega)
  have h2 := h.row.cut (k := (lo F i).length) (by omega)
  have e1 : ((allR F).flatMap Pr.cells).take ((lo F i).length * 4) = (lo F i).flatMap Pr.cells := by rw [hs, List.flatMap_append, List.take_left' (cells4 _)]
  have e2 : ((allR F).flatMap Pr.cells).drop ((lo F i).length * 4) = (hi_ F i).flatMap Pr.cells := by
    rw [hs, List.flatMap_append, List.drop_left' (cells4 _)]
    rfl
  rw [e1] at h1
  rw [e2] at h2
  exact ⟨h1, h2⟩
theorem getD_lo {F : Fs} {i j : Nat} (hi : i < 16) (hp : F i = none) (hj : j < (lo F i).length) : ((allR F).getD j Pr.zero).id ≤ i := by
  have e : (allR F).getD j Pr.zero = (lo F i)[j] := by rw [all_none hi hp, List.getD_eq_getElem?_getD, List.getElem?_append_left hj, List.getElem?_eq_getElem hj]; rfl
  rw [e]
  exact (lo_id (List.getElem_mem hj)).2
theorem getD_hi {F : Fs} {i : Nat} (hi' : i < 16) (hp : F i = none) (hj : (lo F i).length < (allR F).length) : (i : Int) + 2 ≤ ((allR F).getD (lo F i).length Pr.zero).id := by
  have hs := all_none hi' hp
  have hh : 0 < (hi F i).length := by rw [hs] at hj; simp at hj; omega
  have e : (allR F).getD (lo F i).length Pr.zero = (hi F i)[0] := by rw [hs, List.getD_eq_getElem?_getD, List.getElem?_append_right (Nat.le_refl _), Nat.sub_self, List.getElem?_eq_getElem hh]; rfl
  rw [e]
  exact (hi_id (List.getElem_mem hh)).1
theorem rec_reads (w : World) (k : Nat) : Reads (w.alloc (.cells (prOf k ⟨1, 1, []⟩).cells.toArray 59)) (w.heap.size + 1) 4 (some ⟨w.heap.size, 0, none⟩) 1 ((prOf k ⟨1, 1, []⟩).cells) :=
  ⟨rfl, fun _ => ⟨w.heap.size, 0, rfl, by omega, fun j u hu => by rw [Nat.zero_add, (Blk.new w (prOf k ⟨1, 1, []⟩).cells.toArray 59).cell]; simpa using hu⟩⟩
theorem rec_one (k : Nat) : ∀ u ∈ (prOf k ⟨1, 1, []⟩).cells, u.oneCell' = true := by
  intro u hu
  simp only [Pr.cells, List.mem_cons, List.not_mem_nil, or_false] at hu
  rcases hu with rfl | rfl | rfl | rfl <;> rfl
section
variable {w : World} {B q0 : Nat} {vL : Value} {F : Fs}
set_option maxHeartbeats 2000000 in
set_option maxRecDepth 100000 in
theorem made_any (h : Qe w B q0 vL F) (hB : B ≤ w.heap.size) : Calls Try.prog 26 #[.pointer (some ⟨q0, 0, none⟩)] w (RetMd w B q0 vL F) := by
  obtain ⟨A, c, rfl, hnc, hcm⟩ := h.row.shape
  obtain ⟨i0, ii, hz0, hz1, hz2⟩ := info_parts info59
  have hN16 := h.rq.2.len.2
  have H := Lib.hid h
  obtain ⟨N, hN⟩ : ∃ N, (allR F).length = N := ⟨_, rfl⟩
  rw [hN] at hnc hN16
  have HN := Lib.hid hN
  clear h hN
  go_enter Try.func26, Try.ntmps26
  go_wp2_with fail
  go_loopw [4] (fun x wr => ∃ k : Nat, x = .int .i64 ((k : Int) + 1) ∧ k ≤ 16 ∧ (∀ j, j < k → F j ≠ none) ∧ Below w.heap.size w wr) (fun x _ => 17 - (intOf x).toNat)
  case atStart => exact ⟨0, rfl, by omega, fun j hj => by omega, Below.refl _ _⟩
  case round =>
    obtain ⟨k, rfl, hk, hfull, hb⟩ := hrel
    have HFU := Lib.hid hfull
    have HB := Lib.hid hb
    have HQ := Lib.hid (H.out.grow hb)
    clear hfull hb
    have hc0 := HQ.out.ob.cell 0
    have hl0 := HQ.out.ob.lt
    rw [HN.out] at hc0
    dsimp at hc0
    by_cases hk16 : k < 16
    · have hkd : (k : Int) + 1 ≤ 16 := by omega
      have HA := Lib.hid (at_any wr wr.heap.size A (allR F).length c F ((k : Int) + 1) HQ.out.rq.2 (Nat.le_refl _))
      rw [HN.out] at HA
      cases hF : F k with
      | some p =>
        obtain ⟨p1, -, -⟩ := place_some hk16 hF
        rw [p1] at HA
        clear p1
        have HFK : Hid (F k ≠ none) := Lib.hid (by rw [hF]; simp)
        clear hF
        go_wp2_with fail
        refine HA.out.mono ?_
        rintro y w1 ⟨rfl, hb1⟩
        have HB2 := Lib.hid (HB.out.trans (hb1.mono HB.out.size))
        clear hb1 HA
        go_wp2
        go_roundw
        case rel => exact ⟨k + 1, by go_num, by omega, fun j hj => by
          rcases (by omega : j < k ∨ j = k) with h | rfl
          · exact HFU.out j h
          · exact HFK.out, HB2.out⟩
        case measure => simp [intOf]; omega
      | none =>
        rw [place_less ((at1_of hk16).trans hF)] at HA
        have HFK := Lib.hid hF
        clear hF
        go_wp2_with fail
        refine HA.out.mono ?_
        rintro y w1 ⟨rfl, hb1⟩
        have HB2 := Lib.hid (HB.out.trans (hb1.mono HB.out.size))
        have HQ1 := Lib.hid (HQ.out.grow hb1)
        clear hb1 HA hc0 hl0
        have hc1 := HQ1.out.ob.cell 0
        have hl1 := HQ1.out.ob.lt
        have hf1 := HQ1.out.ob.free 0
        rw [HN.out] at hc1
        dsimp at hc1
        have hzl : (lo F k).length ≤ N := by rw [← HN.out, all_none hk16 HFK.out]; simp
        obtain ⟨z, hzz⟩ : ∃ z, (lo F k).length = z := ⟨_, rfl⟩
        have hGL : ∀ j, j < z → ((allR F).getD j Pr.zero).id ≤ k := fun j hj => getD_lo hk16 HFK.out (by rw [hzz]; exact hj)
        have hGH : z < N → (k : Int) + 2 ≤ ((allR F).getD z Pr.zero).id := fun hj => by rw [← hzz]; exact getD_hi hk16 HFK.out (by rw [hzz, HN.out]; exact hj)
        obtain ⟨r1, r2⟩ := HQ1.out.parts0 hk16 HFK.out
        rw [hzz] at r1 r2
        rw [HN.out] at r2
        rw [hzz] at hzl
        have HZ := Lib.hid hzz
        have HGL := Lib.hid hGL
        have HGH := Lib.hid hGH
        have HR1 := Lib.hid r1
        have HR2 := Lib.hid r2
        have HM : Hid (madeE F ((k : Int) + 1) 0 (put F k (some ⟨1, 1, []⟩))) := Lib.hid (.inr ⟨k, ⟨hk16, HFK.out, HFU.out⟩, rfl, rfl, rfl⟩)
        have HRQ1 := Lib.hid HQ1.out.rq.2
        rw [HN.out] at HRQ1
        have HOB : Hid (∀ w', Below w1.heap.size w1 w' → Blk w' q0 #[.slice A (allR F).length c] 45) := Lib.hid (fun w' hb => HQ1.out.ob.fr (Fr.of_grow hb) id)
        have RB0 : Hid (Row (w1.alloc (.cells #[] 59)) w1.heap.size 59 4 (.slice (some ⟨w1.heap.size, 0, none⟩) 0 0) 0 []) := Lib.hid ⟨rfl, .inr ⟨w1.heap.size, 0, 0, #[], rfl, Nat.le_refl _, Blk.new w1 #[] 59, Nat.le_refl _, by simp, by simp, fun j u hu => by simp at hu⟩⟩
        have RL : Hid (Reads (w1.alloc (.cells #[] 59)) w1.heap.size 4 A z ((lo F k).flatMap Pr.cells)) := Lib.hid (r1.reads.alloc (Nat.le_refl _) _)
        have HB9 : Hid (∀ w9, (w1.alloc (.cells #[] 59)).grownBy w9 (Value.slice (some ⟨w1.heap.size, 0, none⟩) 0 0).ownBlock → Below w1.heap.size w1 w9) := Lib.hid (fun w9 hg9 => ((Below.refl w1.heap.size w1).alloc (Nat.le_refl _) _).grown hg9 (by simp) (fun j hj => by simp [Value.ownBlock] at hj; omega))
        have HB10 : Hid (∀ w9 w10 A9 c9, Below w1.heap.size w1 w9 → Row w9 w1.heap.size 59 4 (.slice A9 z c9) z ((lo F k).flatMap Pr.cells) → (w9.alloc (.cells (prOf k ⟨1, 1, []⟩).cells.toArray 59)).grownBy w10 (Value.slice A9 z c9).ownBlock → Below w1.heap.size w1 w10) := Lib.hid (fun w9 w10 A9 c9 hb hr hg => (hb.alloc hb.size _).grown hg (by have := hb.size; simp; omega) (fun j hj => (hr.lt j hj).1))
        have HFIN : Hid (∀ A11 n11 c11 w11, Below w1.heap.size w1 w11 → Row w11 w1.heap.size 59 4 (.slice A11 n11 c11) n11 (((lo F k).flatMap Pr.cells) ++ ((prOf k ⟨1, 1, []⟩).cells) ++ ((hi_ F k).flatMap Pr.cells)) → QGo w B q0 (.slice A (allR F).length c) (put F k (some ⟨1, 1, []⟩)) (w11.setCell ⟨q0, 0, none⟩ (.slice A11 n11 c11))) := Lib.hid (fun A11 n11 c11 w11 hb11 hr11 => by
          refine (H.out.grown HB2.out).trans fun v1 m1 => ?_
          refine m1.renew (Nat.le_trans hB HB2.out.size) hb11 ?_ (fun a q ha hq => ?_)
          · rw [all_put _ hk16, List.flatMap_append, List.flatMap_cons, ← List.append_assoc]
            exact hr11
          · by_cases e : a = k
            · subst e; rw [put_same] at hq; injection hq with hq; subst hq; simp [Pp.ok, Byt]
            · rw [put_other F e] at hq; exact H.out.ok a q ha hq)
        clear hGL hGH r1 r2 hzz
        go_wp2_with fail
        go_loop [5] (fun x => ∃ m : Nat, x = .int .i64 m ∧ m ≤ z) (fun x => z - (intOf x).toNat)
        case atStart => exact ⟨0, rfl, by omega⟩
        case round =>
          obtain ⟨m, rfl, hm⟩ := hrel
          by_cases hmz : m < z
          · obtain ⟨b, o, rfl, hb, d0, -, -, -⟩ := HRQ1.out.at_ (k := m) (by omega)
            have hid := HGL.out m hmz
            generalize ((allR F).getD m Pr.zero).id = x at *
            have hd : decide (x < (k : Int) + 1) = true := by simp; omega
            have hmN : (m : Int) < N := by omega
            have hmN2 : m < N := by omega
            have hx1 : x < (k : Int) + 1 := by omega
            go_wp2
            go_round
            case rel => exact ⟨m + 1, by go_num, by omega⟩
            case measure => simp [intOf]; omega
          · have emz : m = z := by omega
            rw [emz]
            clear emz hm hmz
            have hzc0 : (z : Int) ≤ c := by omega
            have hzc1 : z ≤ c := by omega
            have hzN0 : (z : Int) ≤ N := by omega
            by_cases hzN : z < N
            · obtain ⟨b, o, rfl, hb, d0, -, -, -⟩ := HRQ1.out.at_ (k := z) hzN
              have hid := HGH.out hzN
              generalize ((allR F).getD z Pr.zero).id = x at *
              have hx1 : ¬ x < (k : Int) + 1 := by omega
              have hzN1 : (z : Int) < N := by omega
              have hcz : ¬ c = z := by omega
              have r2 := HR2.out
              rw [if_neg hcz] at r2
              simp only [Option.map_some, add_plain] at r2
              have RH : Hid (∀ w', Below w1.heap.size w1 w' → Reads w' w1.heap.size 4 (some ⟨b, o + z * 4, none⟩) (N - z) ((hi_ F k).flatMap Pr.cells)) := Lib.hid (fun w' hb => r2.reads.below' hb (Nat.le_refl _))
              clear r2
              go_wp2_with (first | (at_builtin; refine wpList_append_row _ rfl (.tmp 36) (.tmp 41) 45 rfl w1.heap.size 59 i0 (.agg #[.int .i64 0, .int .i64 0, .int .i64 0, .string ByteArray.empty]) 4 40 Try.underlying45 ii hz0 hz1 hz2 rfl (by decide) (.slice (some ⟨w1.heap.size, 0, none⟩) 0 0) 0 [] rfl RB0.out w1.heap.size (some ⟨b, o, none⟩) z c ((lo F k).flatMap Pr.cells) rfl RL.out (rq_one _) (by unfold maxLen; omega) (by omega) (by simp) ?_; intro A9 c9 w9 hr9 hg9 ho9; have hb9 := HB9.out w9 hg9; rw [Nat.zero_add, List.nil_append] at hr9; have HR9 := Lib.hid hr9; have HX9 := Lib.hid hb9; have k0 := (hb9.cell (p := ⟨q0, 0, none⟩) hl1).trans hc1; have kl9 := Nat.lt_of_lt_of_le hl1 hb9.size; clear hr9 hg9 ho9 hb9) | (at_builtin; refine wpList_append_row _ rfl (.tmp 43) (.tmp 46) 45 rfl w1.heap.size 59 i0 (.agg #[.int .i64 0, .int .i64 0, .int .i64 0, .string ByteArray.empty]) 4 40 Try.underlying45 ii hz0 hz1 hz2 rfl (by decide) (.slice A9 z c9) z ((lo F k).flatMap Pr.cells) rfl (HR9.out.alloc _) (w9.heap.size + 1) (some ⟨w9.heap.size, 0, none⟩) 1 1 ((prOf k ⟨1, 1, []⟩).cells) rfl (rec_reads w9 k) (rec_one k) (by unfold maxLen; omega) (by omega) (by have := HX9.out.size; simp; omega) ?_; intro A10 c10 w10 hr10 hg10 ho10; have hb10 := HB10.out w9 w10 A9 c9 HX9.out HR9.out hg10; have HR10 := Lib.hid hr10; have HX10 := Lib.hid hb10; have k10 := (hb10.cell (p := ⟨q0, 0, none⟩) hl1).trans hc1; have kl10 := Nat.lt_of_lt_of_le hl1 hb10.size; clear hr10 hg10 ho10 hb10) | (at_builtin; refine wpList_append_row _ rfl (.tmp 49) (.tmp 54) 45 rfl w1.heap.size 59 i0 (.agg #[.int .i64 0, .int .i64 0, .int .i64 0, .string ByteArray.empty]) 4 40 Try.underlying45 ii hz0 hz1 hz2 rfl (by decide) (.slice A10 (z + 1) c10) (z + 1) (((lo F k).flatMap Pr.cells) ++ ((prOf k ⟨1, 1, []⟩).cells)) rfl HR10.out w1.heap.size (some ⟨b, o + z * 4, none⟩) (N - z) (c - z) ((hi_ F k).flatMap Pr.cells) rfl (RH.out _ HX10.out) (rq_one _) (by unfold maxLen; omega) (by omega) HX10.out.size ?_; intro A11 c11 w11 hr11 hg11 ho11; have hb11 := HX10.out.grown hg11 HX10.out.size (fun j hj => (HR10.out.lt j hj).1); have kb11 := HOB.out w11 hb11; have k110 := kb11.cell 0; have kl11 := kb11.lt; have kf11 := kb11.free 0; have HP11 := Lib.hid (HFIN.out A11 _ c11 w11 hb11 hr11); clear hr11 hg11 ho11 hb11 kb11))
              go_ret2
              exact ⟨(k : Int) + 1, 0, _, rfl, HM.out, HP11.out⟩
            · have hNz : N = z := by omega
              by_cases hcz : c = z
              · have r2 := HR2.out
                rw [if_pos hcz, hNz, Nat.sub_self, hcz, Nat.sub_self] at r2
                have RH : Hid (∀ w', Below w1.heap.size w1 w' → Reads w' w1.heap.size 4 A 0 ((hi_ F k).flatMap Pr.cells)) := Lib.hid (fun w' hb => r2.reads.below' hb (Nat.le_refl _))
                clear r2 hzN hzc0 hzc1 hzN0
                subst hNz
                subst hcz
                go_wp2_with (first | (at_builtin; refine wpList_append_row _ rfl (.tmp 36) (.tmp 41) 45 rfl w1.heap.size 59 i0 (.agg #[.int .i64 0, .int .i64 0, .int .i64 0, .string ByteArray.empty]) 4 40 Try.underlying45 ii hz0 hz1 hz2 rfl (by decide) (.slice (some ⟨w1.heap.size, 0, none⟩) 0 0) 0 [] rfl RB0.out w1.heap.size A c c ((lo F k).flatMap Pr.cells) rfl RL.out (rq_one _) (by unfold maxLen; omega) (by omega) (by simp) ?_; intro A9 c9 w9 hr9 hg9 ho9; have hb9 := HB9.out w9 hg9; rw [Nat.zero_add, List.nil_append] at hr9; have HR9 := Lib.hid hr9; have HX9 := Lib.hid hb9; have k0 := (hb9.cell (p := ⟨q0, 0, none⟩) hl1).trans hc1; have kl9 := Nat.lt_of_lt_of_le hl1 hb9.size; clear hr9 hg9 ho9 hb9) | (at_builtin; refine wpList_append_row _ rfl (.tmp 43) (.tmp 46) 45 rfl w1.heap.size 59 i0 (.agg #[.int .i64 0, .int .i64 0, .int .i64 0, .string ByteArray.empty]) 4 40 Try.underlying45 ii hz0 hz1 hz2 rfl (by decide) (.slice A9 c c9) c ((lo F k).flatMap Pr.cells) rfl (HR9.out.alloc _) (w9.heap.size + 1) (some ⟨w9.heap.size, 0, none⟩) 1 1 ((prOf k ⟨1, 1, []⟩).cells) rfl (rec_reads w9 k) (rec_one k) (by unfold maxLen; omega) (by omega) (by have := HX9.out.size; simp; omega) ?_; intro A10 c10 w10 hr10 hg10 ho10; have hb10 := HB10.out w9 w10 A9 c9 HX9.out HR9.out hg10; have HR10 := Lib.hid hr10; have HX10 := Lib.hid hb10; have k10 := (hb10.cell (p := ⟨q0, 0, none⟩) hl1).trans hc1; have kl10 := Nat.lt_of_lt_of_le hl1 hb10.size; clear hr10 hg10 ho10 hb10) | (at_builtin; refine wpList_append_row _ rfl (.tmp 49) (.tmp 54) 45 rfl w1.heap.size 59 i0 (.agg #[.int .i64 0, .int .i64 0, .int .i64 0, .string ByteArray.empty]) 4 40 Try.underlying45 ii hz0 hz1 hz2 rfl (by decide) (.slice A10 (c + 1) c10) (c + 1) (((lo F k).flatMap Pr.cells) ++ ((prOf k ⟨1, 1, []⟩).cells)) rfl HR10.out w1.heap.size A 0 0 ((hi_ F k).flatMap Pr.cells) rfl (RH.out _ HX10.out) (rq_one _) (by unfold maxLen; omega) (by omega) HX10.out.size ?_; intro A11 c11 w11 hr11 hg11 ho11; have hb11 := HX10.out.grown hg11 HX10.out.size (fun j hj => (HR10.out.lt j hj).1); have kb11 := HOB.out w11 hb11; have k110 := kb11.cell 0; have kl11 := kb11.lt; have kf11 := kb11.free 0; have HP11 := Lib.hid (HFIN.out A11 _ c11 w11 hb11 hr11); clear hr11 hg11 ho11 hb11 kb11))
                go_ret2
                exact ⟨(k : Int) + 1, 0, _, rfl, HM.out, HP11.out⟩
              · have hA : ∃ b o, A = some ⟨b, o, none⟩ := by
                  rcases HR1.out.2 with ⟨e, _⟩ | ⟨b, o, _, _, e, _⟩
                  · injection e with e1 e2 e3; omega
                  · injection e with e1; exact ⟨b, o, e1⟩
                obtain ⟨b, o, rfl⟩ := hA
                have r2 := HR2.out
                rw [if_neg hcz, hNz, Nat.sub_self] at r2
                simp only [Option.map_some, add_plain] at r2
                have RH : Hid (∀ w', Below w1.heap.size w1 w' → Reads w' w1.heap.size 4 (some ⟨b, o + z * 4, none⟩) 0 ((hi_ F k).flatMap Pr.cells)) := Lib.hid (fun w' hb => r2.reads.below' hb (Nat.le_refl _))
                clear r2 hzN hzN0
                subst hNz
                go_wp2_with (first | (at_builtin; refine wpList_append_row _ rfl (.tmp 36) (.tmp 41) 45 rfl w1.heap.size 59 i0 (.agg #[.int .i64 0, .int .i64 0, .int .i64 0, .string ByteArray.empty]) 4 40 Try.underlying45 ii hz0 hz1 hz2 rfl (by decide) (.slice (some ⟨w1.heap.size, 0, none⟩) 0 0) 0 [] rfl RB0.out w1.heap.size (some ⟨b, o, none⟩) N c ((lo F k).flatMap Pr.cells) rfl RL.out (rq_one _) (by unfold maxLen; omega) (by omega) (by simp) ?_; intro A9 c9 w9 hr9 hg9 ho9; have hb9 := HB9.out w9 hg9; rw [Nat.zero_add, List.nil_append] at hr9; have HR9 := Lib.hid hr9; have HX9 := Lib.hid hb9; have k0 := (hb9.cell (p := ⟨q0, 0, none⟩) hl1).trans hc1; have kl9 := Nat.lt_of_lt_of_le hl1 hb9.size; clear hr9 hg9 ho9 hb9) | (at_builtin; refine wpList_append_row _ rfl (.tmp 43) (.tmp 46) 45 rfl w1.heap.size 59 i0 (.agg #[.int .i64 0, .int .i64 0, .int .i64 0, .string ByteArray.empty]) 4 40 Try.underlying45 ii hz0 hz1 hz2 rfl (by decide) (.slice A9 N c9) N ((lo F k).flatMap Pr.cells) rfl (HR9.out.alloc _) (w9.heap.size + 1) (some ⟨w9.heap.size, 0, none⟩) 1 1 ((prOf k ⟨1, 1, []⟩).cells) rfl (rec_reads w9 k) (rec_one k) (by unfold maxLen; omega) (by omega) (by have := HX9.out.size; simp; omega) ?_; intro A10 c10 w10 hr10 hg10 ho10; have hb10 := HB10.out w9 w10 A9 c9 HX9.out HR9.out hg10; have HR10 := Lib.hid hr10; have HX10 := Lib.hid hb10; have k10 := (hb10.cell (p := ⟨q0, 0, none⟩) hl1).trans hc1; have kl10 := Nat.lt_of_lt_of_le hl1 hb10.size; clear hr10 hg10 ho10 hb10) | (at_builtin; refine wpList_append_row _ rfl (.tmp 49) (.tmp 54) 45 rfl w1.heap.size 59 i0 (.agg #[.int .i64 0, .int .i64 0, .int .i64 0, .string ByteArray.empty]) 4 40 Try.underlying45 ii hz0 hz1 hz2 rfl (by decide) (.slice A10 (N + 1) c10) (N + 1) (((lo F k).flatMap Pr.cells) ++ ((prOf k ⟨1, 1, []⟩).cells)) rfl HR10.out w1.heap.size (some ⟨b, o + N * 4, none⟩) 0 (c - N) ((hi_ F k).flatMap Pr.cells) rfl (RH.out _ HX10.out) (rq_one _) (by unfold maxLen; omega) (by omega) HX10.out.size ?_; intro A11 c11 w11 hr11 hg11 ho11; have hb11 := HX10.out.grown hg11 HX10.out.size (fun j hj => (HR10.out.lt j hj).1); have kb11 := HOB.out w11 hb11; have k110 := kb11.cell 0; have kl11 := kb11.lt; have kf11 := kb11.free 0; have HP11 := Lib.hid (HFIN.out A11 _ c11 w11 hb11 hr11); clear hr11 hg11 ho11 hb11 kb11))
                go_ret2
                exact ⟨(k : Int) + 1, 0, _, rfl, HM.out, HP11.out⟩
    · obtain rfl : k = 16 := by omega
      have HM : Hid (madeE F 0 6 F) := Lib.hid (.inl ⟨HFU.out, rfl, rfl, rfl⟩)
      go_wp2
      go_ret2
      exact ⟨0, 6, F, rfl, HM.out, H.out.grown HB.out⟩
end
end Go.Proofs.Ythlhjaacjhlkhaa
