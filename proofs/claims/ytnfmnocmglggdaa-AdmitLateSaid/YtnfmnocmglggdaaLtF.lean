/- Contract of ringref1.Late. -/
import Derived.Test.YtnfmnocmglggdaaLtE
import Derived.Test.YtnfmnocmglggdaaLtC
namespace Go.Proofs.Ytnfmnocmglggdaa
open Go.RowKit
set_option maxHeartbeats 400000
set_option linter.unusedVariables false
set_option linter.unusedSimpArgs false
abbrev Job := Nat × Nat × Nat
theorem jobs_at {w : World} {B n c k : Nat} {A : Option Addr} {js : List Job} (h : Row w B 39 3 (.slice A n c) n (js.flatMap encJ)) (hl : js.length = n) (hk : k < n) :
    ∃ b o, A = some ⟨b, o, none⟩ ∧ b < w.heap.size ∧ w.cell? ⟨b, o + k * 3, none⟩ = some (.int .i64 ((js.getD k default).1 : Int)) ∧ w.cell? ⟨b, o + k * 3 + 1, none⟩ = some (.int .i64 ((js.getD k default).2.1 : Int)) ∧ w.cell? ⟨b, o + k * 3 + 2, none⟩ = some (.int .i64 ((js.getD k default).2.2 : Int)) := by
  obtain ⟨b, o, e, hb, hc⟩ := h.reads.2 (by omega)
  have g := fun t (ht : t < 3) => hc (k * 3 + t) _ (flatJ_at js (k * 3 + t) (by rw [hl]; omega))
  have e0 : ∀ t, t < 3 → (k * 3 + t) / 3 = k ∧ (k * 3 + t) % 3 = t := fun t ht => by omega
  refine ⟨b, o, e, hb, ?_, ?_, ?_⟩
  · have := g 0 (by omega); rw [(e0 0 (by omega)).1, (e0 0 (by omega)).2] at this; simpa [encJ] using this
  · have := g 1 (by omega); rw [(e0 1 (by omega)).1, (e0 1 (by omega)).2] at this; simpa [encJ, Nat.add_assoc] using this
  · have := g 2 (by omega); rw [(e0 2 (by omega)).1, (e0 2 (by omega)).2] at this; simpa [encJ, Nat.add_assoc] using this
theorem box_ne {w : World} {g B n : Nat} {u v : Value} {xs : List Value} (h : Blk w g #[u] 37) (hr : Row w B 39 3 v n xs) : v.ownBlock ≠ some g := by
  intro he
  rcases hr.2 with ⟨rfl, _⟩ | ⟨g', o, cap, cur, rfl, _, hh, _⟩
  · simp [Value.ownBlock] at he
  · have : g' = g := by simpa [Value.ownBlock] using he
    subst this
    unfold Blk at h
    rw [h] at hh
    injection hh with hh
    injection hh with _ ht
    exact absurd ht (by decide)
/-- The boxed slice 'left', within a round that began at W. -/
structure LB (W : World) (js : List Job) (v : Value) (wr : World) : Prop where
  box : Blk wr W.heap.size #[v] 37
  row : Row wr W.heap.size 39 3 v js.length (js.flatMap encJ)
  bel : Below W.heap.size W wr
theorem LB.alloc {W wr : World} {js : List Job} {v : Value} (h : LB W js v wr) (o : Obj) : LB W js v (wr.alloc o) := ⟨h.box.alloc o, h.row.alloc o, h.bel.alloc h.bel.size o⟩
theorem LB.start (W : World) : LB W [] (.slice none 0 0) (W.alloc (.cells #[.slice none 0 0] 37)) := ⟨Blk.new _ _ _, Row.nil _ _ _ _, (Below.refl _ _).alloc (Nat.le_refl _) _⟩
theorem LB.push {W w2 w9 : World} {js : List Job} {x : Job} {v v9 : Value} (h : LB W js v w2) (hg : w2.grownBy w9 v.ownBlock) (hr : Row w9 W.heap.size 39 3 v9 (js ++ [x]).length ((js ++ [x]).flatMap encJ)) : LB W (js ++ [x]) v9 (w9.setCell ⟨W.heap.size, 0, none⟩ v9) := by
  have hb9 : Blk w9 W.heap.size #[v] 37 := h.box.grown hg (fun e => box_ne h.box h.row e.symm)
  have hne := box_ne hb9 hr
  exact ⟨hb9.set 0 v9, hr.setCell hne v9, (h.bel.grown hg h.bel.size (fun k hk => (h.row.lt k hk).1)).setCell (Nat.le_refl _) v9⟩
theorem enc_one (js : List Job) : ∀ u ∈ js.flatMap encJ, u.oneCell' = true := by
  intro u hu
  obtain ⟨x, _, hx⟩ := List.mem_flatMap.1 hu
  simp [encJ] at hx
  rcases hx with rfl | rfl | rfl <;> rfl
theorem flat_push (js : List Job) (x : Job) : (js ++ [x]).flatMap encJ = js.flatMap encJ ++ encJ x := by simp
theorem Try.infoJ : (Try.prog.info? 39).map (fun i => (i.zero, i.size, i.bytes)) = some (some (.agg #[.int .i64 0, .int .i64 0, .int .i64 0]), 3, 24) := by kernel_rfl
/-- The job of one who is there, at the beginning of a round. -/
def jobB (us : List Us) (now : Nat) (L : Nat → Nat) (i : Nat) : Job := (L i, dueB us now i, i)
def lateQ (us : List Us) (now : Nat) (L : Nat → Nat) (i : Nat) : Bool := decide (dueB us now i = now) && decide (0 < L i)
theorem take_snoc {ids : List Nat} {k : Nat} (h : k < ids.length) : ids.take (k + 1) = ids.take k ++ [ids.getD k 0] := by
  rw [List.take_succ_eq_append_getElem h]
  simp [List.getD, List.getElem?_eq_getElem h]
theorem filter_snoc (p : Nat → Bool) (l : List Nat) (x : Nat) : (l ++ [x]).filter p = l.filter p ++ if p x = true then [x] else [] := by
  rw [List.filter_append]
  congr 1
  cases h : p x <;> simp [h]
theorem map_getD {ids : List Nat} {k : Nat} (f : Nat → Job) (h : k < ids.length) : (ids.map f).getD k default = f (ids.getD k 0) := by
  simp [List.getD, List.getElem?_eq_getElem h]
theorem jobs_ids {us : List Us} {t : Nat} {L2 : Nat → Nat} {ids : List Nat} {js : List Job} (hp : js.Perm (ids.map (jobOf us t L2))) : js = (js.map (fun x => x.2.2)).map (jobOf us t L2) ∧ (js.map (fun x => x.2.2)).Perm ids := by
  constructor
  · rw [List.map_map]
    refine (List.map_id js).symm.trans (List.map_congr_left fun x hx => ?_)
    obtain ⟨i, _, rfl⟩ := List.mem_map.1 (hp.mem_iff.1 hx)
    rfl
  · have := hp.map (fun x : Job => x.2.2)
    rw [List.map_map] at this
    have e : (fun x : Job => x.2.2) ∘ jobOf us t L2 = id := rfl
    rw [e, List.map_id] at this
    exact this
theorem next_list {us : List Us} {t : Nat} {L2 : Nat → Nat} {b : Nat} {rest : List Nat} (hn : (b :: rest).Nodup) :
    (b :: rest).map (jobB us (t + 1) (cutL (some b) L2)) = (L2 b - 1, due us t b, b) :: rest.map (jobOf us t L2) := by
  rw [List.map_cons]
  congr 1
  · unfold jobB dueB cutL
    simp
  · refine List.map_congr_left fun i hi => ?_
    have hne : i ≠ b := fun e => (List.nodup_cons.1 hn).1 (e ▸ hi)
    unfold jobB dueB cutL jobOf
    simp [hne]
theorem flat_set0 (x : Job) (js : List Job) (l : Nat) : ((x :: js).flatMap encJ).set 0 (.int .i64 (l : Int)) = ((l, x.2.1, x.2.2) :: js).flatMap encJ := by
  simp [encJ]
set_option maxHeartbeats 4000000 in
set_option maxRecDepth 100000 in
theorem refLate_any (A : Option Addr) (n c : Nat) (us : List Us) (T : Nat) (w : World) (B : Nat) (h : RU w B A n us) (hB : B ≤ w.heap.size) (hc : chkU us = 0) (hT : T ≤ 2000) :
    Calls Try.prog 7 #[.slice A n c, .int .i64 T] w fun e w' => e = .returned (.int .i64 (lateF us T : Nat)) ∧ Below w.heap.size w w' := by
  have HL := Lib.hid h.len
  have hn16 : n ≤ 16 := by rw [← HL.out]; exact (chk_ok hc).1
  have HC := Lib.hid hc
  obtain ⟨i0, hi, hz0, hz1, hz2⟩ := info_parts Try.infoJ
  have hmf : ∀ fn first cap w, (Instr.makeFunc fn first cap).run Try.prog w = .ok (.func fn first cap) w := fun _ _ _ _ => rfl
  clear hc
  go_enter Try.func7, Try.ntmps7
  go_wp2
  go_loopw [5, 6, 7] (fun v5 v6 v7 wr => ∃ (t : Nat) (ids : List Nat), t ≤ T + 1 ∧ v7 = .int .i64 t ∧ v6 = .int .i64 ((runL us t).late : Nat) ∧ Hid (Jbs us (runL us t).L ids) ∧ Hid (t = 0 → ids = []) ∧
      Hid (Row wr w.heap.size 39 3 v5 ids.length ((ids.map (jobB us t (runL us t).L)).flatMap encJ)) ∧ Hid (Below w.heap.size w wr)) (fun _ _ i _ => T + 1 - (intOf i).toNat)
  case atStart => exact ⟨0, [], by omega, rfl, rfl, Lib.hid ⟨List.nodup_nil, fun i hi => (by cases hi), fun i _ hi => (by simp [runL] at hi)⟩, Lib.hid (fun _ => rfl), Lib.hid (Row.nil _ _ _ _), Lib.hid (Below.refl _ _)⟩
  case round =>
    obtain ⟨t, ids, ht, rfl, rfl, HJ, HI0, HR, HB⟩ := hrel
    have hll := run_late us t
    have hlb : (runL us t).late ≤ 2001 * 16 := Nat.le_trans hll (Nat.mul_le_mul (by omega) (by rw [HL.out]; exact hn16))
    clear hll
    by_cases hlt : t < T + 1
    · have htz : (t : Int) ≤ (T : Int) := by omega
      have HRD := Lib.hid (show runL us (t + 1) = round us t (runL us t) from rfl)
      have HB30 := Lib.hid (run_left HC.out t)
      have HL0 := Lib.hid (show t = 0 → ∀ i, (runL us t).L i = 0 from by rintro rfl i; rfl)
      generalize runL us t = st at *
      obtain ⟨L, lt⟩ := st
      dsimp only at hlb HR HRD HJ HL0 HB30 ⊢
      have hidl : ids.length ≤ 16 := by
        have h1 : (ids.map (fun (i : Nat) => (i : Nat))).length ≤ n := by
          rw [List.length_map, ← HL.out]
          have hsub : ids.Perm ((List.range us.length).filter (fun i => decide (i ∈ ids))) := (List.perm_ext_iff_of_nodup HJ.out.nd (List.nodup_range.filter _)).2 (fun i => by
            simp only [List.mem_filter, List.mem_range, decide_eq_true_eq]
            exact ⟨fun hi => ⟨HJ.out.lt i hi, hi⟩, fun hi => hi.2⟩)
          have := List.length_filter_le (fun i => decide (i ∈ ids)) (List.range us.length)
          rw [← hsub.length_eq, List.length_range] at this
          exact this
        rw [List.length_map] at h1
        omega
      obtain ⟨A5, c5, rfl, hc5, -⟩ := HR.out.shape
      obtain ⟨W, hW⟩ : ∃ W, W = wr := ⟨_, rfl⟩
      subst hW
      have hLB := Lib.hid (LB.start W)
      have hWz := HB.out.size
      obtain ⟨N, hN⟩ : ∃ N, N = ids.length := ⟨_, rfl⟩
      have HN := Lib.hid hN
      rw [← hN] at hidl hc5 ⊢
      clear hN
      go_wp2
      obtain ⟨L2, hL2⟩ : ∃ L2, L2 = relL us t L := ⟨_, rfl⟩
      have HL2 := Lib.hid hL2
      clear hL2
      go_loopw [6, 20] (fun v6 i wr => ∃ (k : Nat) (v : Value), k ≤ N ∧ i = .int .i64 k ∧ v6 = .int .i64 ((lt + ((ids.take k).filter (lateQ us t L)).length : Nat) : Int) ∧ Hid (LB W (((ids.take k).filter (goneP us t L)).map (jobOf us t L2)) v wr)) (fun _ i _ => N - (intOf i).toNat)
      case atStart => exact ⟨0, _, by omega, rfl, by simp, hLB⟩
      case round =>
        clear hLB
        obtain ⟨k, v, hk, rfl, rfl, HLB⟩ := hrel
        obtain ⟨cn6, hcn6⟩ : ∃ cn6, cn6 = ((ids.take k).filter (lateQ us t L)).length := ⟨_, rfl⟩
        have HCN := Lib.hid hcn6
        have hcnb : cn6 ≤ 16 := by
          have h1 := List.length_filter_le (lateQ us t L) (ids.take k)
          rw [List.length_take] at h1
          omega
        rw [← hcn6]
        clear hcn6
        obtain ⟨ls, hls⟩ : ∃ ls : Nat, ls = lt + cn6 := ⟨_, rfl⟩
        have hlsb : ls ≤ 2001 * 16 + 16 := by omega
        have HLS := Lib.hid hls
        rw [← hls]
        clear hls
        by_cases hkN : k < N
        · have hkid : k < ids.length := by rw [← HN.out]; exact hkN
          have hkz : (k : Int) < N := by omega
          have HTK := Lib.hid (take_snoc hkid)
          have hrow5 := HR.out.grow HLB.out.bel
          rw [← HN.out] at hrow5
          obtain ⟨b, o, rfl, hb, c0, c1, c2⟩ := jobs_at hrow5 (by rw [List.length_map]; exact HN.out.symm) hkN
          rw [map_getD _ hkid] at c0 c1 c2
          have hmem : ids.getD k 0 ∈ ids := by simp [List.getD, List.getElem?_eq_getElem hkid]
          have hilt := HJ.out.lt _ hmem
          have ht1 : 1 ≤ t := by
            rcases Nat.eq_zero_or_pos t with h0 | h0
            · have := HI0.out h0; rw [this] at hkid; simp at hkid
            · exact h0
          have hpp := (period_pos HC.out hilt).1
          obtain ⟨hd1, hd2⟩ := dueB_eq ht1 hpp
          have HJO := Lib.hid (fun hg => job_old HC.out ht1 hilt hg (us := us) (L := L))
          have hqd : lateQ us t L (ids.getD k 0) = (decide (dueB us t (ids.getD k 0) = t) && decide (0 < L (ids.getD k 0))) := rfl
          have hgd : goneP us t L (ids.getD k 0) = (decide (t < dueB us t (ids.getD k 0)) && decide (0 < L (ids.getD k 0))) := rfl
          have HF1 : Hid ((ids.take (k + 1)).filter (lateQ us t L) = (ids.take k).filter (lateQ us t L) ++ if lateQ us t L (ids.getD k 0) = true then [ids.getD k 0] else []) := Lib.hid (by rw [HTK.out, filter_snoc])
          have HF2 : Hid ((ids.take (k + 1)).filter (goneP us t L) = (ids.take k).filter (goneP us t L) ++ if goneP us t L (ids.getD k 0) = true then [ids.getD k 0] else []) := Lib.hid (by rw [HTK.out, filter_snoc])
          have hdge : t ≤ dueB us t (ids.getD k 0) := by
            by_cases hx : t % pn us (ids.getD k 0) = 0
            · rw [hd1 hx]; omega
            · have := hd2 hx; omega
          clear hd1 hd2 hmem hrow5 HTK
          dsimp only [jobB] at c0 c1 c2
          generalize ids.getD k 0 = ii at *
          generalize hdd : dueB us t ii = d at *
          generalize hll : L ii = l at *
          have HBS := Lib.hid (HLB.out.alloc (.cells #[.int .i64 (l : Int), .int .i64 (d : Int), .int .i64 (ii : Int)] 39))
          by_cases hdt : d = t
          · have hg0 : goneP us t L ii = false := by rw [hgd]; simp [hdt]
            have HE2 : Hid ((ids.take (k + 1)).filter (goneP us t L) = (ids.take k).filter (goneP us t L)) := Lib.hid (HF2.out.trans (by simp [hg0]))
            subst hdt
            by_cases hl : 0 < l
            · have hlz : (0 : Int) < (l : Int) := by omega
              have HE1 := Lib.hid (HF1.out.trans (by rw [hqd, if_pos (by simp [hl])]))
              clear HF1 HF2 hqd hgd hg0 hdge hll hl HJO
              go_wp2
              go_roundw
              case rel => exact ⟨k + 1, v, by omega, by go_num, by rw [HE1.out, List.length_append, ← HCN.out]; have := HLS.out; simp; omega, by rw [HE2.out]; exact HBS⟩
              case measure => simp [intOf]; omega
            · obtain rfl : l = 0 := by omega
              have HE1 := Lib.hid (HF1.out.trans (by rw [hqd, if_neg (by simp), List.append_nil]))
              clear HF1 HF2 hqd hgd hg0 hdge hll hl HJO
              go_wp2
              go_roundw
              case rel => exact ⟨k + 1, v, by omega, by go_num, by rw [HE1.out, ← HCN.out, ← HLS.out], by rw [HE2.out]; exact HBS⟩
              case measure => simp [intOf]; omega
          · have hq0 : lateQ us t L ii = false := by rw [hqd]; simp [hdt]
            have HE1 : Hid ((ids.take (k + 1)).filter (lateQ us t L) = (ids.take k).filter (lateQ us t L)) := Lib.hid (HF1.out.trans (by simp [hq0]))
            have hdn : t < d := by omega
            have e1 : ((d : Int) == (t : Int)) = false := by simp; omega
            have e2 : (d == t) = false := by simp [hdt]
            by_cases hl : 0 < l
            · have hg1 : goneP us t L ii = true := by rw [hgd]; simp [hl, hdn]
              have HE2 := Lib.hid (HF2.out.trans (by rw [if_pos hg1]))
              have HJX := Lib.hid (HJO.out hg1)
              rw [← HL2.out] at HJX
              have HA1 := Lib.hid (HBS.out.alloc (.cells #[.int .i64 (l : Int), .int .i64 (d : Int), .int .i64 (ii : Int)] 39))
              have hbox := HBS.out.box
              have hc8 := hbox.cell 0
              have hf8 := hbox.free 0
              have hl8 := hbox.lt
              have hjl : (((ids.take k).filter (goneP us t L)).map (jobOf us t L2)).length ≤ 16 := by
                rw [List.length_map]
                have h1 := List.length_filter_le (goneP us t L) (ids.take k)
                rw [List.length_take] at h1
                omega
              have HPJ : Hid (((ids.take (k + 1)).filter (goneP us t L)).map (jobOf us t L2) = ((ids.take k).filter (goneP us t L)).map (jobOf us t L2) ++ [(l, d, ii)]) := Lib.hid (by rw [HE2.out, List.map_append, HJX.out]; rfl)
              clear HF1 HF2 hqd hgd hdge hll hdd HJO hq0 hg1 hdt HJX HE2
              generalize ((ids.take k).filter (goneP us t L)).map (jobOf us t L2) = js at *
              have hra := HA1.out.row
              obtain ⟨A8, c8, rfl, hcc8, -⟩ := hra.shape
              have hlz : (0 : Int) < (l : Int) := by omega
              have hdz : (t : Int) < (d : Int) := by omega
              have hsz := HBS.out.bel.size
              have hrd : Reads ((wr.alloc (.cells #[.int .i64 (l : Int), .int .i64 (d : Int), .int .i64 (ii : Int)] 39)).alloc (.cells #[.int .i64 (l : Int), .int .i64 (d : Int), .int .i64 (ii : Int)] 39)) (wr.heap.size + 2) 3 (some ⟨wr.heap.size + 1, 0, none⟩) 1 (encJ (l, d, ii)) := by
                have := reads_cells (wr.alloc (.cells #[.int .i64 (l : Int), .int .i64 (d : Int), .int .i64 (ii : Int)] 39)) 39 3 1 (encJ (l, d, ii)) rfl
                rw [World.size_alloc] at this
                exact this
              go_wp2_with (at_builtin; refine wpList_append_row _ rfl (.tmp 44) (.tmp 46) 37 rfl W.heap.size 39 i0 (.agg #[.int .i64 0, .int .i64 0, .int .i64 0]) 3 24 Try.underlying37 hi hz0 hz1 hz2 rfl (by decide) (.slice A8 js.length c8) js.length (js.flatMap encJ) rfl hra (wr.heap.size + 2) (some ⟨wr.heap.size + 1, 0, none⟩) 1 1 (encJ (l, d, ii)) rfl hrd (fun u hu => by simp [encJ] at hu; rcases hu with rfl | rfl | rfl <;> rfl) (by unfold maxLen; omega) (by omega) (by rw [World.size_alloc]; omega) ?_)
              intro A9 c9 w9 hr9 hg9 ho9
              have hl9 : (js ++ [(l, d, ii)]).length = js.length + 1 := by simp
              have HP := Lib.hid (HA1.out.push (x := (l, d, ii)) (v9 := .slice A9 (js ++ [(l, d, ii)]).length c9) hg9 (by rw [hl9, flat_push]; exact hr9))
              rw [hl9] at HP
              have hb9 := (HA1.out.box.grown hg9 (fun e => box_ne HA1.out.box HA1.out.row e.symm))
              have hc9 := hb9.cell 0
              have hf9 := hb9.free 0
              have hl9' := hb9.lt
              clear hr9 hg9 ho9 hra hrd hb9 hl9 HA1 HBS hbox
              go_wp2
              go_roundw
              case rel => exact ⟨k + 1, _, by omega, by go_num, by rw [HE1.out, ← HCN.out, ← HLS.out], by rw [HPJ.out]; exact HP⟩
              case measure => simp [intOf]; omega
            · obtain rfl : l = 0 := by omega
              have hg0 : goneP us t L ii = false := by rw [hgd]; simp
              have HE2 : Hid ((ids.take (k + 1)).filter (goneP us t L) = (ids.take k).filter (goneP us t L)) := Lib.hid (HF2.out.trans (by simp [hg0]))
              clear HF1 HF2 hqd hgd hg0 hdge hll hl HJO hdt hq0
              go_wp2
              go_roundw
              case rel => exact ⟨k + 1, v, by omega, by go_num, by rw [HE1.out, ← HCN.out, ← HLS.out], by rw [HE2.out]; exact HBS⟩
              case measure => simp [intOf]; omega
        · obtain rfl : k = N := by omega
          have HCL : Hid (ls = (runL us (t + 1)).late) := Lib.hid (by
            rw [HLS.out, HCN.out, HRD.out]
            show _ = lt + lateK us t L us.length
            rcases Nat.eq_zero_or_pos t with h0 | h0
            · have e := HI0.out h0
              subst e
              have hz : lateK us t L us.length = 0 := by
                have hz1 : ∀ i, L i = 0 := HL0.out h0
                unfold lateK
                rw [List.filter_eq_nil_iff.2 (fun i _ => by simp [lateP, hz1])]; rfl
              rw [hz]; simp
            · rw [← late_count HC.out HJ.out h0, List.take_of_length_le (by rw [HN.out]; exact Nat.le_refl _)]
              rfl)
          have HK0 : Hid (LB W ((ids.filter (goneP us t L)).map (jobOf us t L2) ++ ((List.range 0).filter (fun i => decide (t % pn us i = 0))).map (jobOf us t L2)) v wr) := Lib.hid (by
            have := HLB.out
            rw [List.take_of_length_le (by rw [HN.out]; exact Nat.le_refl _)] at this
            simpa using this)
          have hKl : ((ids.filter (goneP us t L)).map (jobOf us t L2)).length ≤ 16 := by
            rw [List.length_map]
            have h1 := List.length_filter_le (goneP us t L) ids
            rw [← HN.out] at h1
            omega
          obtain ⟨K, hK⟩ : ∃ K, K = (ids.filter (goneP us t L)).map (jobOf us t L2) := ⟨_, rfl⟩
          have HK := Lib.hid hK
          rw [← hK] at HK0 hKl
          clear hK HLB HR HCN hkN
          go_wp2
          go_loopw [51] (fun i wr => ∃ (j : Nat) (v : Value), j ≤ n ∧ i = .int .i64 j ∧ Hid (LB W (K ++ ((List.range j).filter (fun i => decide (t % pn us i = 0))).map (jobOf us t L2)) v wr)) (fun i _ => n - (intOf i).toNat)
          case atStart => exact ⟨0, v, by omega, rfl, HK0⟩
          case round =>
            clear HK0
            obtain ⟨j, v, hj, rfl, HLB⟩ := hrel
            by_cases hjn : j < n
            · have hjl : j < us.length := by rw [HL.out]; exact hjn
              have hjz : (j : Int) < n := by omega
              have hbelw := HB.out.trans (HLB.out.bel.mono hWz)
              obtain ⟨b, o, rfl, hb, hme, c0, c1⟩ := (h.below' hbelw hB).at_ hjn
              have hbz := hbelw.size
              have hbr : b < wr.heap.size := by omega
              obtain ⟨hp1, hp2, hq1, hq2⟩ := period_pos HC.out hjl
              have HJN := Lib.hid (fun hx => job_new HC.out hjl hx (us := us) (now := t) (L := L))
              rw [us_parts HC.out hjl] at c0 c1
              dsimp only at c0 c1
              clear hme hbelw
              have HF : Hid ((List.range (j + 1)).filter (fun i => decide (t % pn us i = 0)) = (List.range j).filter (fun i => decide (t % pn us i = 0)) ++ if decide (t % pn us j = 0) = true then [j] else []) := Lib.hid (by rw [List.range_succ, filter_snoc])
              have hjl2 : (K ++ ((List.range j).filter (fun i => decide (t % pn us i = 0))).map (jobOf us t L2)).length ≤ 32 := by
                rw [List.length_append, List.length_map]
                have h1 := List.length_filter_le (fun i => decide (t % pn us i = 0)) (List.range j)
                rw [List.length_range] at h1
                omega
              generalize cn us j = C at *
              generalize hP : pn us j = P at *
              have hPz : (P : Int) ≠ 0 := by omega
              have HBS := Lib.hid (HLB.out.alloc (.cells #[.int .i64 (C : Int), .int .i64 (P : Int)] 35))
              by_cases hmod : t % P = 0
              · have d : ((t : Int) % (P : Int) == 0) = true := by
                  have : (t : Int) % (P : Int) = ((t % P : Nat) : Int) := by simp
                  rw [this, hmod]; rfl
                have HJX := Lib.hid (HJN.out hmod)
                rw [← HL2.out] at HJX
                have HPJ : Hid (K ++ ((List.range (j + 1)).filter (fun i => decide (t % pn us i = 0))).map (jobOf us t L2) = (K ++ ((List.range j).filter (fun i => decide (t % pn us i = 0))).map (jobOf us t L2)) ++ [(C, t + P, j)]) := Lib.hid (by
                  rw [HF.out, if_pos (by simpa using hmod), List.map_append, List.append_assoc, HJX.out]; rfl)
                have HA1 := Lib.hid (HBS.out.alloc (.cells #[.int .i64 (C : Int), .int .i64 ((t : Int) + (P : Int)), .int .i64 (j : Int)] 39))
                have hbox := HBS.out.box
                have hc8 := hbox.cell 0
                have hf8 := hbox.free 0
                have hl8 := hbox.lt
                clear HF HJN HJX hmod hP
                generalize K ++ ((List.range j).filter (fun i => decide (t % pn us i = 0))).map (jobOf us t L2) = js at *
                have hra := HA1.out.row
                obtain ⟨A8, c8, rfl, hcc8, -⟩ := hra.shape
                have hsz := HBS.out.bel.size
                rw [World.size_alloc] at hsz
                have hrd : Reads ((wr.alloc (.cells #[.int .i64 (C : Int), .int .i64 (P : Int)] 35)).alloc (.cells #[.int .i64 (C : Int), .int .i64 ((t : Int) + (P : Int)), .int .i64 (j : Int)] 39)) (wr.heap.size + 2) 3 (some ⟨wr.heap.size + 1, 0, none⟩) 1 (encJ (C, t + P, j)) := by
                  have := reads_cells (wr.alloc (.cells #[.int .i64 (C : Int), .int .i64 (P : Int)] 35)) 39 3 1 (encJ (C, t + P, j)) rfl
                  rw [World.size_alloc] at this
                  simpa [encJ] using this
                go_wp2_with (at_builtin; refine wpList_append_row _ rfl (.tmp 61) (.tmp 70) 37 rfl W.heap.size 39 i0 (.agg #[.int .i64 0, .int .i64 0, .int .i64 0]) 3 24 Try.underlying37 hi hz0 hz1 hz2 rfl (by decide) (.slice A8 js.length c8) js.length (js.flatMap encJ) rfl hra (wr.heap.size + 2) (some ⟨wr.heap.size + 1, 0, none⟩) 1 1 (encJ (C, t + P, j)) rfl hrd (fun u hu => by simp [encJ] at hu; rcases hu with rfl | rfl | rfl <;> rfl) (by unfold maxLen; omega) (by omega) (by rw [World.size_alloc, World.size_alloc]; omega) ?_)
                intro A9 c9 w9 hr9 hg9 ho9
                have hl9 : (js ++ [(C, t + P, j)]).length = js.length + 1 := by simp
                have HP := Lib.hid (HA1.out.push (x := (C, t + P, j)) (v9 := .slice A9 (js ++ [(C, t + P, j)]).length c9) hg9 (by rw [hl9, flat_push]; exact hr9))
                rw [hl9] at HP
                have hb9 := (HA1.out.box.grown hg9 (fun e => box_ne HA1.out.box HA1.out.row e.symm))
                have hc9 := hb9.cell 0
                have hf9 := hb9.free 0
                have hl9' := hb9.lt
                clear hr9 hg9 ho9 hra hrd hb9 hl9 HA1 HBS hbox
                go_wp2
                go_roundw
                case rel => exact ⟨j + 1, _, by omega, by go_num, by rw [HPJ.out]; exact HP⟩
                case measure => simp [intOf]; omega
              · have d : ((t : Int) % (P : Int) == 0) = false := by
                  have : (t : Int) % (P : Int) = ((t % P : Nat) : Int) := by simp
                  rw [this]; simp; omega
                have HPJ : Hid (K ++ ((List.range (j + 1)).filter (fun i => decide (t % pn us i = 0))).map (jobOf us t L2) = K ++ ((List.range j).filter (fun i => decide (t % pn us i = 0))).map (jobOf us t L2)) := Lib.hid (by
                  rw [HF.out, if_neg (by simpa using hmod), List.append_nil])
                clear HF HJN hmod
                go_wp2
                go_roundw
                case rel => exact ⟨j + 1, v, by omega, by go_num, by rw [HPJ.out]; exact HBS⟩
                case measure => simp [intOf]; omega
            · obtain rfl : j = n := by omega
              obtain ⟨js, hjs⟩ : ∃ js, js = K ++ ((List.range j).filter (fun i => decide (t % pn us i = 0))).map (jobOf us t L2) := ⟨_, rfl⟩
              have hjl2 : js.length ≤ 32 := by
                rw [hjs, List.length_append, List.length_map]
                have h1 := List.length_filter_le (fun i => decide (t % pn us i = 0)) (List.range j)
                rw [List.length_range] at h1
                omega
              have HJS : Hid (js = (ids2 us t L ids).map (jobOf us t L2)) := Lib.hid (by
                rw [hjs, HK.out, ← List.map_append]
                unfold ids2
                rw [HL.out])
              rw [← hjs] at HLB
              clear hjs
              have HOK := Lib.hid (ids2_ok HC.out HJ.out HI0.out)
              have hrow := HLB.out.row
              obtain ⟨A8, c8, rfl, hc8, -⟩ := hrow.shape
              have hbx := HLB.out.box
              have hcb := hbx.cell 0
              have hfb := hbx.free 0
              have hlb8 := hbx.lt
              have hne8 := box_ne hbx hrow
              have HSR := Lib.hid (sort_jobs A8 js.length c8 W.heap.size W.heap.size js wr hrow rfl (by omega) hcb hlb8 (fun g hg e => hne8 (by rw [hg, e])))
              have hlt8 := hrow.lt
              have HBX := Lib.hid hbx
              have HBL := Lib.hid HLB.out.bel
              clear hrow hbx HLB HJ HI0 HK
              obtain ⟨M, hM⟩ : ∃ M, M = js.length := ⟨_, rfl⟩
              have HM := Lib.hid hM
              rw [← hM] at HSR hc8 hjl2 hcb hlt8 hne8 HBX
              clear hM
              go_wp2_with fail
              refine HSR.out.mono ?_
              rintro e w6 ⟨rfl, js', hpm, hso, hr6, hf6⟩
              have hb6 := HBX.out.fr hf6 hne8
              have hc6 := hb6.cell 0
              have hl6 := hb6.lt
              have hbel6 := HBL.out.trans (hf6.below (B := W.heap.size) HBL.out.size (fun k hk => (hlt8 k hk).1))
              have HB6 := Lib.hid (HB.out.trans (hbel6.mono hWz))
              have HPM := Lib.hid hpm
              have HSO := Lib.hid hso
              rw [HJS.out] at hpm
              obtain ⟨hj1, hj2⟩ := jobs_ids hpm
              have HJ1 := Lib.hid hj1
              have HJ2 := Lib.hid hj2
              have hlj : js'.length = M := by rw [HPM.out.length_eq, ← HM.out]
              have HLJ := Lib.hid hlj
              have HND := Lib.hid (hj2.nodup_iff.2 HOK.out.1)
              have HME : Hid (∀ i, i ∈ js'.map (fun x => x.2.2) ↔ i < us.length ∧ 0 < L2 i) := Lib.hid (fun i => by rw [hj2.mem_iff, HOK.out.2 i, HL2.out])
              have HRN : Hid ((runL us (t + 1)).L = cutL (bst us t L2 us.length) L2) := Lib.hid (by rw [HRD.out, HL2.out]; rfl)
              clear hpm hso hj1 hj2 hlj hf6 hbel6 HSR HPM HOK HJS hne8
              rcases Nat.eq_zero_or_pos M with h0 | h0
              · subst h0
                have hjn : js' = [] := List.eq_nil_of_length_eq_zero HLJ.out
                have HNN := Lib.hid (next_none (now := t) HME.out (by rw [hjn]; rfl))
                have HR6 : Hid (Row w6 W.heap.size 39 3 (.slice A8 0 c8) 0 (([] : List Job).flatMap encJ)) := Lib.hid (by rw [hjn] at hr6; exact hr6)
                clear HSO hr6
                go_wp2
                go_roundw
                case rel => exact ⟨t + 1, [], by omega, by go_num, by rw [HCL.out], Lib.hid (by rw [HRN.out, HNN.out.1]; have := HNN.out.2; rw [hjn] at this; exact this), Lib.hid (fun _ => rfl), Lib.hid (HR6.out.base_le hWz), HB6⟩
                case measure => simp [intOf]; omega
              · obtain ⟨b0, o0, rfl, hb0, q0, q1, q2⟩ := jobs_at hr6 HLJ.out h0
                obtain ⟨x0, xs, hxs⟩ : ∃ x0 xs, js' = x0 :: xs := by
                  cases js' with
                  | nil => have := HLJ.out; simp at this; omega
                  | cons a l => exact ⟨a, l, rfl⟩
                subst hxs
                have hx0 : x0 = jobOf us t L2 x0.2.2 := by
                  have := HJ1.out
                  simp only [List.map_cons, List.cons.injEq] at this
                  exact this.1
                have hxs2 : xs = (xs.map (fun x => x.2.2)).map (jobOf us t L2) := by
                  have := HJ1.out
                  simp only [List.map_cons, List.cons.injEq] at this
                  exact this.2
                obtain ⟨bq, hbq⟩ : ∃ bq, bq = x0.2.2 := ⟨_, rfl⟩
                have HSM : Hid (∀ i ∈ xs.map (fun x => x.2.2), ¬ (due us t i < due us t bq ∨ due us t i = due us t bq ∧ i < bq)) := Lib.hid (fun i hi => by
                  obtain ⟨y, hy, rfl⟩ := List.mem_map.1 hi
                  obtain ⟨jj, hjj, hyy⟩ := List.getElem_of_mem hy
                  have hs := HSO.out 0 (jj + 1) (by omega) (by rw [← HLJ.out]; simpa using hjj)
                  have e1 : (x0 :: xs).getD (jj + 1) default = y := by simp [List.getD, List.getElem?_eq_getElem hjj, hyy]
                  have e2 : (x0 :: xs).getD 0 default = x0 := rfl
                  rw [e1, e2] at hs
                  have hyj : y = jobOf us t L2 y.2.2 := by
                    rw [hxs2] at hy
                    obtain ⟨i', _, rfl⟩ := List.mem_map.1 hy
                    rfl
                  rw [hyj, hx0, ← hbq] at hs
                  unfold ltJ jobOf at hs
                  simpa using hs)
                have HNN := Lib.hid (next_jobs (now := t) HND.out HME.out (b := bq) (rest := xs.map (fun x => x.2.2)) (by rw [List.map_cons, hbq]) HSM.out)
                have hpos : 0 < L2 bq := ((HME.out bq).1 (by rw [List.map_cons, hbq]; simp)).2
                have HNL : Hid ((bq :: xs.map (fun x => x.2.2)).map (jobB us (t + 1) (cutL (some bq) L2)) = (L2 bq - 1, x0.2.1, x0.2.2) :: xs) := Lib.hid (by
                  have hnd := HND.out
                  rw [List.map_cons, ← hbq] at hnd
                  rw [next_list hnd, ← hxs2]
                  congr 1
                  rw [hx0, ← hbq]; rfl)
                have hfst : x0.1 = L2 bq := by rw [hx0, ← hbq]; rfl
                have HST : Hid (Row (w6.setCell ⟨b0, o0 + 0, none⟩ (.int .i64 ((L2 bq - 1 : Nat) : Int))) W.heap.size 39 3 (.slice (some ⟨b0, o0, none⟩) M c8) M (((L2 bq - 1, x0.2.1, x0.2.2) :: xs).flatMap encJ)) := Lib.hid (by
                  have := hr6.stored (j := 0) (by omega) (.int .i64 ((L2 bq - 1 : Nat) : Int))
                  rw [flat_set0] at this
                  exact this)
                have hgl0 := (hr6.lt b0 rfl).1
                have HBS := Lib.hid (HB6.out.setCell (p := ⟨b0, o0, none⟩) (show w.heap.size ≤ b0 by omega) (.int .i64 ((L2 bq - 1 : Nat) : Int)))
                have hfr0 : w6.frozen? ⟨b0, o0, none⟩ = false := by
                  rcases hr6.2 with ⟨e, _⟩ | ⟨g', o', cap, cur, e, _, hh, _⟩
                  · cases e
                  · injection e with e1 _ _
                    injection e1 with e1
                    injection e1 with e1 e2
                    subst e1; subst e2
                    exact frozen_of_row w6 _ _ cur 39 hh
                have hnz : ((L2 bq : Int) - 1) = ((L2 bq - 1 : Nat) : Int) := by omega
                have hbx0 : b0 ≠ W.heap.size := fun e => box_ne hb6 hr6 (by rw [e]; rfl)
                have hl30 : L2 bq ≤ 30 := by
                  have hlt := ((HME.out bq).1 (by rw [List.map_cons, hbq]; simp)).1
                  rw [HL2.out]
                  unfold relL
                  split
                  · exact (period_pos HC.out hlt).2.2.2
                  · exact HB30.out bq hlt
                have q0' : w6.cell? ⟨b0, o0, none⟩ = some (.int .i64 (L2 bq : Nat)) := by
                  have := q0
                  simp only [Nat.zero_mul, Nat.add_zero] at this
                  rw [this]
                  show some (Value.int .i64 (x0.1 : Int)) = _
                  rw [hfst]
                have hMz : (0 : Int) < (M : Int) := by omega
                have hLM : Hid (M = (bq :: xs.map (fun x => x.2.2)).length) := Lib.hid (by rw [← HLJ.out]; simp)
                clear HSO HSM hx0 hxs2 hfst q0 q1 q2 HJ1 HJ2 HND hr6
                generalize L2 bq = lq at *
                go_wp2
                have hJ2 := HNN.out.2
                rw [List.map_cons, ← hbq] at hJ2
                have e1 : (runL us (t + 1)).L = cutL (some bq) L2 := by rw [HRN.out, HNN.out.1]
                refine ⟨⟨t + 1, bq :: xs.map (fun x => x.2.2), by omega, by go_num, by rw [HCL.out], Lib.hid (by rw [e1]; exact hJ2), Lib.hid (fun h => by omega), Lib.hid ?_, HBS⟩, by simp [intOf]; omega⟩
                rw [e1, HNL.out, ← hLM.out]
                exact HST.out.base_le hWz
    · obtain rfl : t = T + 1 := by omega
      have HLO := Lib.hid (show lateF us T = (runL us (T + 1)).late from rfl)
      generalize (runL us (T + 1)).late = lt at *
      have htn : ¬ ((T : Int) + 1 ≤ (T : Int)) := by omega
      go_wp2
      go_ret
      exact ⟨by rw [HLO.out]; rfl, HB.out⟩
end Go.Proofs.Ytnfmnocmglggdaa
