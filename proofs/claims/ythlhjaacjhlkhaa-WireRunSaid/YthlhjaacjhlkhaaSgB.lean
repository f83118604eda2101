/- One end of a stream, the reference: contract of say (a segment is made). -/
import Derived.Test.YthlhjaacjhlkhaaSgA
import Derived.Test.YthlhjaacjhlkhaaStT
namespace Go.Proofs.Ythlhjaacjhlkhaa
open Go.RowKit
set_option maxHeartbeats 400000
set_option linter.unusedVariables false
set_option linter.unusedSimpArgs false
/-- A slice that reads as xs. -/
def rdSt (n : Nat) (xs : List Int) : St := ⟨fun v W => ∃ A c, v = .slice A n c ∧ RB W W.heap.size A n xs, fun v W W' hh hg => by obtain ⟨A, c, h1, h2⟩ := hh; exact ⟨A, c, h1, (h2.below' hg (Nat.le_refl _)).more hg.size⟩⟩
theorem RB.part {w : World} {B n b o k m : Nat} {xs : List Int} (h : RB w B (some ⟨b, o, none⟩) n xs) (hk : k + m ≤ n) : RB w B (some ⟨b, o + k, none⟩) m ((xs.drop k).take m) := by
  have hl := h.len
  refine ⟨⟨by simp; omega, fun hm => ?_⟩, fun x hx => h.2 x (List.mem_of_mem_drop (List.mem_of_mem_take hx))⟩
  obtain ⟨b', o', e, hb, hc⟩ := h.1.2 (by omega)
  simp at e
  obtain ⟨rfl, rfl⟩ := e
  refine ⟨b, o + k, rfl, hb, fun j u hu => ?_⟩
  rw [Nat.add_assoc]
  refine hc _ u ?_
  rw [List.map_take, List.getElem?_take, List.map_drop, List.getElem?_drop] at hu
  split at hu
  · exact hu
  · cases hu
section
variable {w : World} {B q : Nat} {s : Sm} {vo vi : Value} {m : Nat}
set_option maxHeartbeats 4000000 in
set_option maxRecDepth 100000 in
theorem rsay_low (h : RSt w B q s vo vi) (hB : B ≤ w.heap.size) (fl : Int) (hfl : fl = 0 ∨ fl = 1 ∨ fl = 4) (hst : ¬ 2 < s.st) (hn1 : s.nxt ≤ 1000000) (ht1 : s.top ≤ 1000000) (hgm : s.got.length ≤ 1000000) (hrd : s.rd ≤ s.got.length) (pn : Nat) (hpn : (pn : Int) = ((0 : Nat) : Int) + fl % 2 + fl / 4 % 2) :
    Calls Try.prog 96 #[.pointer (some ⟨q, 0, none⟩), .int .i64 fl, .int .i64 0] w (SayP w B q 66 (rcells (s.sayS pn)) vo vi s.said s.got (s.saySg fl 0)) := by
  obtain ⟨i0, ii, hz0, hz1, hz2⟩ := info_parts pu8info
  have hfr : 0 ≤ fl ∧ fl ≤ 7 := by omega
  have hp37 : pn ≤ 37 := by omega
  have hb0 : Below w.heap.size w (w.alloc (.cells zsg 25)) := (Below.refl _ _).alloc (Nat.le_refl _) _
  have HB0 : Hid (Below (w.heap.size + 1) (w.alloc (.cells zsg 25)) (w.alloc (.cells zsg 25))) := Lib.hid (Below.refl _ _)
  have HTO : Hid (∀ w', Below (w.heap.size + 1) (w.alloc (.cells zsg 25)) w' → Below w.heap.size w w') := Lib.hid (fun w' hb => hb0.trans (hb.mono (by omega)))
  have HOB := Lib.hid h
  have HFP := Lib.hid (fun k hk => (Ob2.lt h k hk).2)
  have HQ : Hid (∀ w', Below (w.heap.size + 1) (w.alloc (.cells zsg 25)) w' → Calls Try.prog 99 #[.pointer (some ⟨q, 0, none⟩), .int .i64 s.nxt] w' fun e w2 => e = .returned (.int .u32 (s.seqI s.nxt)) ∧ w' = w2) := Lib.hid (fun w' hb => rseq (Ob2.grow HOB.out (HTO.out w' hb)) s.nxt)
  have HSP := Lib.hid (fun (f : Int) (A7 : Option Addr) (n7 c7 : Nat) (hn7 : n7 ≤ 32) (a wn : Int) W => segSpan_any (s.seqI s.nxt) a f wn A7 n7 c7 W (by unfold maxLen; omega))
  have hgl := (Ob2.blk h).lt
  obtain ⟨SG, hSG⟩ : ∃ SG, s.saySg fl 0 = SG := ⟨_, rfl⟩
  obtain ⟨S', hX'⟩ : ∃ S', s.sayS pn = S' := ⟨_, rfl⟩
  rw [hSG, hX']
  have HWN : Hid (s.winI = 64 - ((s.got.length : Int) - s.rd)) := Lib.hid (by unfold Sm.winI; rw [s.inn_len]; omega)
  have HSG : Hid (SG = ⟨s.seqI s.nxt, 0, fl, 64 - ((s.got.length : Int) - s.rd), []⟩) := Lib.hid (by rw [← hSG]; unfold Sm.saySg; rw [if_neg hst, if_neg hst, HWN.out]; rfl)
  have HNX : Hid (S' = { s with nxt := s.nxt + pn, top := max s.top (s.nxt + pn), due := false }) := Lib.hid hX'.symm
  have HST : Hid (¬ 2 < s.st) := Lib.hid hst
  obtain ⟨A0, c0, A', c', rfl, rfl, h1, h2, h3, h4⟩ := h.look
  obtain ⟨vo, hvo⟩ : ∃ v, v = Value.slice A0 s.said.length c0 := ⟨_, rfl⟩
  obtain ⟨vi, hvi⟩ : ∃ v, v = Value.slice A' s.got.length c' := ⟨_, rfl⟩
  rw [← hvo, ← hvi] at HOB HFP ⊢
  have HVO := Lib.hid hvo
  have HVI := Lib.hid hvi
  have HK : Hid (∀ w', Below (w.heap.size + 1) (w.alloc (.cells zsg 25)) w' → w'.cell? ⟨q, 4, none⟩ = some (.slice A' s.got.length c') ∧ w'.cell? ⟨q, 5, none⟩ = some (.int .i64 s.rd) ∧ w'.cell? ⟨q, 7, none⟩ = some (.int .i64 s.nxt)) := Lib.hid (fun w' hb => by
    have hc := (Ob2.grow HOB.out (HTO.out w' hb)).blk.cell
    exact ⟨(hc 4).trans (congrArg some HVI.out), hc 5, hc 7⟩)
  clear h hb0 hSG hX' hst hvo hvi hB
  go_enter Try.func96, Try.ntmps96
  go_wp2_with fail
  refine wp_region_walk (fun w' => Below (w.heap.size + 1) (w.alloc (.cells zsg 25)) w' ∧ w.heap.size + 1 ≤ w'.heap.size) [[], [], [(9, 1)], [(10, 2)], [(11, 3)], [(8, 0), (12, 4)], [], [], [(15, 7)], [(16, 8)], [(17, 9)], [(18, 10)], [], [(20, 12)], [(21, 13)], [(22, 14)], [(19, 11), (23, 15)], [(24, 16)], [(13, 5), (14, 6), (25, 17)], []]
    [(8, 0), (9, 1), (10, 2), (11, 3), (12, 4), (13, 5), (14, 6), (15, 7), (16, 8), (17, 9), (18, 10), (19, 11), (20, 12), (21, 13), (22, 14), (23, 15), (24, 16), (25, 17), (26, 18), (7, 19)] (by kernel_rfl) (by kernel_rfl) (by kernel_rfl) ⟨HB0.out.drew, by have := HB0.out.size; simp⟩ ?_
  apply Flow.det_step
  · go_light
    intro w1 hC1
    simp only [Flow.fill, Flow.after, Flow.at_, List.nil_append, List.cons_append, List.getD_cons_zero, List.getD_cons_succ, det, forall_eq, List.setIfInBounds_toArray, List.set_cons_zero, List.set_cons_succ, List.drop, List.length]
    obtain ⟨hb1, hsz1⟩ := hC1
    obtain ⟨k4, k5, k7⟩ := HK.out w1 hb1
    go_wp2
    exact Flow.post_det ⟨hb1, hsz1⟩ (Grow.refl _) rfl rfl
  apply Flow.det_step
  · go_light
    intro w1 hC1
    simp only [Flow.fill, Flow.after, Flow.at_, List.nil_append, List.cons_append, List.getD_cons_zero, List.getD_cons_succ, det, forall_eq, List.setIfInBounds_toArray, List.set_cons_zero, List.set_cons_succ, List.drop, List.length]
    obtain ⟨hb1, hsz1⟩ := hC1
    obtain ⟨k4, k5, k7⟩ := HK.out w1 hb1
    go_wp2
    exact Flow.post_det ⟨hb1, hsz1⟩ (Grow.refl _) rfl rfl
  apply Flow.det_step
  · go_light
    intro w1 hC1
    simp only [Flow.fill, Flow.after, Flow.at_, List.nil_append, List.cons_append, List.getD_cons_zero, List.getD_cons_succ, det, forall_eq, List.setIfInBounds_toArray, List.set_cons_zero, List.set_cons_succ, List.drop, List.length]
    obtain ⟨hb1, hsz1⟩ := hC1
    obtain ⟨k4, k5, k7⟩ := HK.out w1 hb1
    go_wp2
    exact Flow.post_det ⟨hb1, hsz1⟩ (Grow.refl _) rfl rfl
  apply Flow.det_step
  · go_light
    intro w1 hC1
    simp only [Flow.fill, Flow.after, Flow.at_, List.nil_append, List.cons_append, List.getD_cons_zero, List.getD_cons_succ, det, forall_eq, List.setIfInBounds_toArray, List.set_cons_zero, List.set_cons_succ, List.drop, List.length]
    obtain ⟨hb1, hsz1⟩ := hC1
    obtain ⟨k4, k5, k7⟩ := HK.out w1 hb1
    go_wp2
    exact Flow.post_det ⟨hb1, hsz1⟩ (Grow.refl _) rfl rfl
  apply Flow.det_step
  · go_light
    intro w1 hC1
    simp only [Flow.fill, Flow.after, Flow.at_, List.nil_append, List.cons_append, List.getD_cons_zero, List.getD_cons_succ, det, forall_eq, List.setIfInBounds_toArray, List.set_cons_zero, List.set_cons_succ, List.drop, List.length]
    obtain ⟨hb1, hsz1⟩ := hC1
    obtain ⟨k4, k5, k7⟩ := HK.out w1 hb1
    go_wp2
    exact Flow.post_det ⟨hb1, hsz1⟩ (Grow.refl _) rfl rfl
  apply Flow.det_step
  · go_light
    intro w1 hC1
    simp only [Flow.fill, Flow.after, Flow.at_, List.nil_append, List.cons_append, List.getD_cons_zero, List.getD_cons_succ, det, forall_eq, List.setIfInBounds_toArray, List.set_cons_zero, List.set_cons_succ, List.drop, List.length]
    obtain ⟨hb1, hsz1⟩ := hC1
    obtain ⟨k4, k5, k7⟩ := HK.out w1 hb1
    go_wp2_with (go_at_call 99; refine (HQ.out w1 hb1).mono ?_; rintro e w4 ⟨rfl, rfl⟩)
    exact Flow.post_det ⟨hb1, hsz1⟩ (Grow.refl _) rfl rfl
  apply Flow.det_step
  · go_light
    intro w1 hC1
    simp only [Flow.fill, Flow.after, Flow.at_, List.nil_append, List.cons_append, List.getD_cons_zero, List.getD_cons_succ, det, forall_eq, List.setIfInBounds_toArray, List.set_cons_zero, List.set_cons_succ, List.drop, List.length]
    obtain ⟨hb1, hsz1⟩ := hC1
    obtain ⟨k4, k5, k7⟩ := HK.out w1 hb1
    go_wp2
    exact Flow.post_det ⟨hb1, hsz1⟩ (Grow.refl _) rfl rfl
  apply Flow.det_step
  · go_light
    intro w1 hC1
    simp only [Flow.fill, Flow.after, Flow.at_, List.nil_append, List.cons_append, List.getD_cons_zero, List.getD_cons_succ, det, forall_eq, List.setIfInBounds_toArray, List.set_cons_zero, List.set_cons_succ, List.drop, List.length]
    obtain ⟨hb1, hsz1⟩ := hC1
    obtain ⟨k4, k5, k7⟩ := HK.out w1 hb1
    go_wp2
    exact Flow.post_det ⟨hb1, hsz1⟩ (Grow.refl _) rfl rfl
  apply Flow.det_step
  · go_light
    intro w1 hC1
    simp only [Flow.fill, Flow.after, Flow.at_, List.nil_append, List.cons_append, List.getD_cons_zero, List.getD_cons_succ, det, forall_eq, List.setIfInBounds_toArray, List.set_cons_zero, List.set_cons_succ, List.drop, List.length]
    obtain ⟨hb1, hsz1⟩ := hC1
    obtain ⟨k4, k5, k7⟩ := HK.out w1 hb1
    go_wp2
    exact Flow.post_det ⟨hb1, hsz1⟩ (Grow.refl _) rfl rfl
  apply Flow.det_step
  · go_light
    intro w1 hC1
    simp only [Flow.fill, Flow.after, Flow.at_, List.nil_append, List.cons_append, List.getD_cons_zero, List.getD_cons_succ, det, forall_eq, List.setIfInBounds_toArray, List.set_cons_zero, List.set_cons_succ, List.drop, List.length]
    obtain ⟨hb1, hsz1⟩ := hC1
    obtain ⟨k4, k5, k7⟩ := HK.out w1 hb1
    go_wp2
    exact Flow.post_det ⟨hb1, hsz1⟩ (Grow.refl _) rfl rfl
  apply Flow.det_step
  · go_light
    intro w1 hC1
    simp only [Flow.fill, Flow.after, Flow.at_, List.nil_append, List.cons_append, List.getD_cons_zero, List.getD_cons_succ, det, forall_eq, List.setIfInBounds_toArray, List.set_cons_zero, List.set_cons_succ, List.drop, List.length]
    obtain ⟨hb1, hsz1⟩ := hC1
    obtain ⟨k4, k5, k7⟩ := HK.out w1 hb1
    go_wp2
    exact Flow.post_det ⟨hb1, hsz1⟩ (Grow.refl _) rfl rfl
  apply Flow.det_step
  · go_light
    intro w1 hC1
    simp only [Flow.fill, Flow.after, Flow.at_, List.nil_append, List.cons_append, List.getD_cons_zero, List.getD_cons_succ, det, forall_eq, List.setIfInBounds_toArray, List.set_cons_zero, List.set_cons_succ, List.drop, List.length]
    obtain ⟨hb1, hsz1⟩ := hC1
    obtain ⟨k4, k5, k7⟩ := HK.out w1 hb1
    go_wp2
    exact Flow.post_det ⟨hb1, hsz1⟩ (Grow.refl _) rfl rfl
  apply Flow.det_step
  · go_light
    intro w1 hC1
    simp only [Flow.fill, Flow.after, Flow.at_, List.nil_append, List.cons_append, List.getD_cons_zero, List.getD_cons_succ, det, forall_eq, List.setIfInBounds_toArray, List.set_cons_zero, List.set_cons_succ, List.drop, List.length]
    obtain ⟨hb1, hsz1⟩ := hC1
    obtain ⟨k4, k5, k7⟩ := HK.out w1 hb1
    go_wp2
    exact Flow.post_det ⟨hb1, hsz1⟩ (Grow.refl _) rfl rfl
  apply Flow.det_step
  · go_light
    intro w1 hC1
    simp only [Flow.fill, Flow.after, Flow.at_, List.nil_append, List.cons_append, List.getD_cons_zero, List.getD_cons_succ, det, forall_eq, List.setIfInBounds_toArray, List.set_cons_zero, List.set_cons_succ, List.drop, List.length]
    obtain ⟨hb1, hsz1⟩ := hC1
    obtain ⟨k4, k5, k7⟩ := HK.out w1 hb1
    go_wp2
    exact Flow.post_det ⟨hb1, hsz1⟩ (Grow.refl _) rfl rfl
  apply Flow.det_step
  · go_light
    intro w1 hC1
    simp only [Flow.fill, Flow.after, Flow.at_, List.nil_append, List.cons_append, List.getD_cons_zero, List.getD_cons_succ, det, forall_eq, List.setIfInBounds_toArray, List.set_cons_zero, List.set_cons_succ, List.drop, List.length]
    obtain ⟨hb1, hsz1⟩ := hC1
    obtain ⟨k4, k5, k7⟩ := HK.out w1 hb1
    go_wp2
    exact Flow.post_det ⟨hb1, hsz1⟩ (Grow.refl _) rfl rfl
  apply Flow.det_step
  · go_light
    intro w1 hC1
    simp only [Flow.fill, Flow.after, Flow.at_, List.nil_append, List.cons_append, List.getD_cons_zero, List.getD_cons_succ, det, forall_eq, List.setIfInBounds_toArray, List.set_cons_zero, List.set_cons_succ, List.drop, List.length]
    obtain ⟨hb1, hsz1⟩ := hC1
    obtain ⟨k4, k5, k7⟩ := HK.out w1 hb1
    go_wp2
    exact Flow.post_det ⟨hb1, hsz1⟩ (Grow.refl _) rfl rfl
  apply Flow.det_step
  · go_light
    intro w1 hC1
    simp only [Flow.fill, Flow.after, Flow.at_, List.nil_append, List.cons_append, List.getD_cons_zero, List.getD_cons_succ, det, forall_eq, List.setIfInBounds_toArray, List.set_cons_zero, List.set_cons_succ, List.drop, List.length]
    obtain ⟨hb1, hsz1⟩ := hC1
    obtain ⟨k4, k5, k7⟩ := HK.out w1 hb1
    go_wp2
    exact Flow.post_det ⟨hb1, hsz1⟩ (Grow.refl _) rfl rfl
  apply Flow.det_step
  · go_light
    intro w1 hC1
    simp only [Flow.fill, Flow.after, Flow.at_, List.nil_append, List.cons_append, List.getD_cons_zero, List.getD_cons_succ, det, forall_eq, List.setIfInBounds_toArray, List.set_cons_zero, List.set_cons_succ, List.drop, List.length]
    obtain ⟨hb1, hsz1⟩ := hC1
    obtain ⟨k4, k5, k7⟩ := HK.out w1 hb1
    go_wp2
    exact Flow.post_det ⟨hb1, hsz1⟩ (Grow.refl _) rfl rfl
  apply Flow.det_step
  · go_light
    intro w1 hC1
    simp only [Flow.fill, Flow.after, Flow.at_, List.nil_append, List.cons_append, List.getD_cons_zero, List.getD_cons_succ, det, forall_eq, List.setIfInBounds_toArray, List.set_cons_zero, List.set_cons_succ, List.drop, List.length]
    obtain ⟨hb1, hsz1⟩ := hC1
    obtain ⟨k4, k5, k7⟩ := HK.out w1 hb1
    go_wp2
    exact Flow.post_det ⟨hb1, hsz1⟩ (Grow.refl _) rfl rfl
  refine Flow.st_step (⟨fun v W => ∃ g7, v = .pointer (some ⟨g7, 0, none⟩) ∧ w.heap.size + 1 ≤ g7 ∧ g7 < W.heap.size ∧ Blk W g7 zsg 25, fun v W W' hh hg => by obtain ⟨g7, h1, h2, h3, h4⟩ := hh; exact ⟨g7, h1, h2, Nat.lt_of_lt_of_le h3 hg.size, h4.fr (Fr.of_grow hg) (fun h => h)⟩⟩) ?_ ?_
  · go_light
    intro w1 hC1
    simp only [Flow.fill, Flow.after, Flow.at_, List.nil_append, List.cons_append, List.getD_cons_zero, List.getD_cons_succ, det, forall_eq, List.setIfInBounds_toArray, List.set_cons_zero, List.set_cons_succ, List.drop, List.length]
    obtain ⟨hb1, hsz1⟩ := hC1
    obtain ⟨k4, k5, k7⟩ := HK.out w1 hb1
    go_wp2
    exact Flow.post_st ⟨hb1.alloc hsz1 _, by simp; omega⟩ (Grow.alloc _ _) rfl rfl ⟨_, rfl, hsz1, by simp, heap_alloc_new _ _⟩
  intro w1 hC1
  simp only [Flow.fill, Flow.after, Flow.at_, List.nil_append, List.cons_append, List.getD_cons_zero, List.getD_cons_succ, det, forall_eq, List.setIfInBounds_toArray, List.set_cons_zero, List.set_cons_succ, List.drop, List.length]
  rintro _ ⟨g7, rfl, hg7, hg7l, hcs7⟩
  obtain ⟨hb1, hsz1⟩ := hC1
  have hP0 : SPos w B q 66 vo vi s.said s.got w1 (rcells s) g7 zsg :=
    ⟨Ob2.grow HOB.out (HTO.out w1 hb1), (Fr.of_grow (HTO.out w1 hb1)).mono (fun _ _ h => h.elim), Blk.fr (show Blk (w.alloc (.cells zsg 25)) w.heap.size zsg 25 from heap_alloc_new w _) (S := fun k => w.heap.size + 1 ≤ k) (Fr.of_below hb1) (by omega), hcs7, by omega, HFP.out⟩
  have HP0 := Lib.hid hP0
  have hP5 := ((((hP0.setS 0 (.int .u32 (s.seqI s.nxt))).setS 1 (.int .u32 0)).setS 2 (.int .i64 fl)).setS 3 (.int .i64 (64 - ((s.got.length : Int) - s.rd)))).setS 4 (.slice none 0 0)
  have HP5 : Hid (SPos w B q 66 vo vi s.said s.got (((((w1.setCell ⟨g7, 0, none⟩ (.int .u32 (s.seqI s.nxt))).setCell ⟨g7, 1, none⟩ (.int .u32 0)).setCell ⟨g7, 2, none⟩ (.int .i64 fl)).setCell ⟨g7, 3, none⟩ (.int .i64 (64 - ((s.got.length : Int) - s.rd)))).setCell ⟨g7, 4, none⟩ (.slice none 0 0)) (rcells s) g7 (sgb (s.seqI s.nxt) 0 fl (64 - ((s.got.length : Int) - s.rd)) none 0 0)) := Lib.hid (by simpa [zsg, sgb] using hP5)
  have hk := hP0.k.cell
  have hfk := hP0.k.free
  have hlk := hP0.k.lt
  dsimp only [zsg] at hk
  clear hP0 hP5 hcs7
  go_upto_region 2 with fail
  obtain ⟨W1, hWW1⟩ : ∃ W, W = ((((w1.setCell ⟨g7, 0, none⟩ (.int .u32 (s.seqI s.nxt))).setCell ⟨g7, 1, none⟩ (.int .u32 0)).setCell ⟨g7, 2, none⟩ (.int .i64 fl)).setCell ⟨g7, 3, none⟩ (.int .i64 (64 - ((s.got.length : Int) - s.rd)))).setCell ⟨g7, 4, none⟩ (.slice none 0 0) := ⟨_, rfl⟩
  rw [← hWW1]
  have HPW1 : Hid (SPos w B q 66 vo vi s.said s.got W1 (rcells s) g7 (sgb (s.seqI s.nxt) 0 fl (64 - ((s.got.length : Int) - s.rd)) none 0 0)) := Lib.hid (by rw [hWW1]; exact HP5.out)
  clear hWW1 hk hfk hlk
  have hc := HPW1.out.o.blk.cell
  have hk := HPW1.out.k.cell
  have hlt := HPW1.out.o.blk.lt
  have hlk := HPW1.out.k.lt
  have hfz := HPW1.out.o.blk.free
  have hfk := HPW1.out.k.free
  dsimp only [rcells, sgb] at hc hk
  have hgg : ¬ g7 = q := by have := HP0.out.l; omega
  clear HP5
  obtain ⟨A9, hA9⟩ : ∃ A : Option Addr, A = none := ⟨_, rfl⟩
  obtain ⟨c9, hc9⟩ : ∃ c : Nat, c = 0 := ⟨_, rfl⟩
  obtain ⟨many, hmn⟩ : ∃ k : Nat, k = 0 := ⟨_, rfl⟩
  obtain ⟨ds, hds⟩ : ∃ d : List Int, d = [] := ⟨_, rfl⟩
  have HXR : Hid (Row W1 w.heap.size 5 1 (.slice A9 many c9) many (ds.map (Value.int .u8))) := Lib.hid (by rw [hA9, hc9, hmn, hds]; exact Row.nil _ _ _ _)
  have HX : Hid (SPos w B q 66 vo vi s.said s.got W1 (rcells s) g7 (sgb (s.seqI s.nxt) 0 fl (64 - ((s.got.length : Int) - s.rd)) A9 many c9)) := Lib.hid (by rw [hA9, hc9, hmn]; exact HPW1.out)
  rw [← hds] at HSG
  have HDL : Hid (ds.length = many) := Lib.hid (by rw [hds, hmn]; rfl)
  have hm32 : many ≤ 32 := by omega
  have hpn' : (pn : Int) = (many : Int) + fl % 2 + fl / 4 % 2 := by rw [hmn]; exact hpn
  clear hpn
  have hpn := hpn'
  clear hpn' hA9 hc9 hmn hds
  go_upto_region 4 with fail
  obtain ⟨W2, hWW2⟩ : ∃ W, W = W1 := ⟨_, rfl⟩
  rw [← hWW2]
  have HPW2 : Hid (SPos w B q 66 vo vi s.said s.got W2 (rcells s) g7 (sgb (s.seqI s.nxt) 0 fl (64 - ((s.got.length : Int) - s.rd)) A9 many c9)) := Lib.hid (by rw [hWW2]; exact HX.out)
  have HRW2 : Hid (Row W2 w.heap.size 5 1 (.slice A9 many c9) many (ds.map (Value.int .u8))) := Lib.hid (by rw [hWW2]; exact HXR.out)
  clear hWW2 hc hk hlt hlk hfz hfk
  have hc := HPW2.out.o.blk.cell
  have hk := HPW2.out.k.cell
  have hlt := HPW2.out.o.blk.lt
  have hlk := HPW2.out.k.lt
  have hfz := HPW2.out.o.blk.free
  have hfk := HPW2.out.k.free
  dsimp only [rcells, sgb] at hc hk
  clear HX HXR
  have HPN := Lib.hid hpn
  clear hpn
  have d1 : decide (2 < s.st) = false := by simpa using HST.out
  go_upto_region 7 with fail
  obtain ⟨W3, hWW3⟩ : ∃ W, W = W2 := ⟨_, rfl⟩
  rw [← hWW3]
  have HPW3 : Hid (SPos w B q 66 vo vi s.said s.got W3 (rcells s) g7 (sgb (s.seqI s.nxt) 0 fl (64 - ((s.got.length : Int) - s.rd)) A9 many c9)) := Lib.hid (by rw [hWW3]; exact HPW2.out)
  have HRW3 : Hid (Row W3 w.heap.size 5 1 (.slice A9 many c9) many (ds.map (Value.int .u8))) := Lib.hid (by rw [hWW3]; exact HRW2.out)
  clear hWW3 hc hk hlt hlk hfz hfk
  have hc := HPW3.out.o.blk.cell
  have hk := HPW3.out.k.cell
  have hlt := HPW3.out.o.blk.lt
  have hlk := HPW3.out.k.lt
  have hfz := HPW3.out.o.blk.free
  have hfk := HPW3.out.k.free
  dsimp only [rcells, sgb] at hc hk
  have hwr : IntKind.i64.wrap ((s.nxt : Int) + pn) = (s.nxt : Int) + pn := IntWalk.i64_in _ (by omega)
  have HWR := Lib.hid hwr
  clear hwr
  have HK5 := Lib.hid (fun w5 (hb5 : Below W3.drew.heap.size W3.drew w5) => (show w5.cell? ⟨q, 7, none⟩ = some (.int .i64 s.nxt) ∧ (∀ j, w5.frozen? ⟨q, j, none⟩ = false) ∧ q < w5.heap.size from
    have h5 := (HPW3.out.grow (((Below.refl W3.heap.size W3).drew).trans hb5)).o
    ⟨h5.blk.cell 7, h5.blk.free, h5.blk.lt⟩))
  have HS5 := Lib.hid (fun w5 (hb5 : Below W3.drew.heap.size W3.drew w5) => (show SPos w B q 66 vo vi s.said s.got (w5.setCell ⟨q, 7, none⟩ (.int .i64 (IntKind.i64.wrap ((s.nxt : Int) + pn)))) (rcells { s with nxt := s.nxt + pn }) g7 (sgb (s.seqI s.nxt) 0 fl (64 - ((s.got.length : Int) - s.rd)) A9 many c9) ∧ Row (w5.setCell ⟨q, 7, none⟩ (.int .i64 (IntKind.i64.wrap ((s.nxt : Int) + pn)))) w.heap.size 5 1 (.slice A9 many c9) many (ds.map (Value.int .u8)) from
    have hb : Below W3.heap.size W3 w5 := ((Below.refl W3.heap.size W3).drew).trans hb5
    have h5 := HPW3.out.grow hb
    ⟨h5.setE (cs' := rcells { s with nxt := s.nxt + pn }) 7 (.int .i64 (IntKind.i64.wrap ((s.nxt : Int) + pn))) (by rw [HWR.out]; simp [rcells]), h5.rowE (HRW3.out.grow hb) 7 _⟩))
  have hspe : spanI many fl = pn := by rw [spanI_small hm32]; unfold spanF; have := HPN.out; omega
  have HSPX := Lib.hid (fun W => HSP.out fl A9 many c9 hm32 0 (64 - ((s.got.length : Int) - s.rd)) W)
  rw [hspe] at HSPX
  clear hspe
  go_region_with (go_at_call 13; refine (HSPX.out _).mono ?_; rintro e w5 ⟨rfl, hb5⟩; obtain ⟨q1, q2, q3⟩ := HK5.out w5 hb5)
  all_goals
    have HS6 := Lib.hid (HS5.out w5 hb5)
    clear hb5 q1 q2 q3
    first
    | (obtain ⟨W6, hW6⟩ : ∃ W, W = w5.setCell ⟨q, 7, none⟩ (.int .i64 (IntKind.i64.wrap ((s.nxt : Int) + pn))) := ⟨_, rfl⟩
       have HP6 : Hid (SPos w B q 66 vo vi s.said s.got W6 (rcells { s with nxt := s.nxt + pn }) g7 (sgb (s.seqI s.nxt) 0 fl (64 - ((s.got.length : Int) - s.rd)) A9 many c9) ∧ Row W6 w.heap.size 5 1 (.slice A9 many c9) many (ds.map (Value.int .u8))) := Lib.hid (by rw [hW6]; exact HS6.out)
       rw [← hW6]
       clear hW6 HS6)
    | (obtain ⟨W6, hW6⟩ : ∃ W, W = (w5.setCell ⟨q, 7, none⟩ (.int .i64 (IntKind.i64.wrap ((s.nxt : Int) + pn)))).drew := ⟨_, rfl⟩
       have HP6 : Hid (SPos w B q 66 vo vi s.said s.got W6 (rcells { s with nxt := s.nxt + pn }) g7 (sgb (s.seqI s.nxt) 0 fl (64 - ((s.got.length : Int) - s.rd)) A9 many c9) ∧ Row W6 w.heap.size 5 1 (.slice A9 many c9) many (ds.map (Value.int .u8))) := Lib.hid (by rw [hW6]; exact ⟨HS6.out.1.drew, HS6.out.2.drew⟩)
       rw [← hW6]
       clear hW6 HS6)
    clear hc hk hlt hlk hfz hfk HK5 HS5
    have hcn : ((s.nxt + pn : Nat) : Int) = (s.nxt : Int) + pn := by omega
    have hc := HP6.out.1.o.blk.cell
    have hlt := HP6.out.1.o.blk.lt
    dsimp only [rcells] at hc
    rw [hcn] at hc
    by_cases hbt : s.top < s.nxt + pn
    · have d9 : decide ((s.top : Int) < (s.nxt : Int) + pn) = true := by simp; omega
      have HMX : Hid (max s.top (s.nxt + pn) = s.nxt + pn) := Lib.hid (by omega)
      clear hbt hcn
      go_wp2_with fail
      go_quiet (fail)
      obtain ⟨w7, hw7⟩ : ∃ w7, w7 = W6.drewN nq := ⟨_, rfl⟩
      rw [← hw7]
      have HP7 : Hid (SPos w B q 66 vo vi s.said s.got w7 (rcells { s with nxt := s.nxt + pn }) g7 (sgb (s.seqI s.nxt) 0 fl (64 - ((s.got.length : Int) - s.rd)) A9 many c9)) := Lib.hid (by rw [hw7]; exact HP6.out.1.drewN _)
      have HR7 : Hid (Row w7 w.heap.size 5 1 (.slice A9 many c9) many (ds.map (Value.int .u8))) := Lib.hid (by rw [hw7]; exact HP6.out.2)
      clear hw7 hc hlt
      have hcn : ((s.nxt + pn : Nat) : Int) = (s.nxt : Int) + pn := by omega
      have hc := HP7.out.o.blk.cell
      have hk := HP7.out.k.cell
      have hz := HP7.out.z.cell
      have hlt := HP7.out.o.blk.lt
      have hlk := HP7.out.k.lt
      have hlz := HP7.out.z.lt
      have hfz := HP7.out.o.blk.free
      have hfk := HP7.out.k.free
      have hfw := HP7.out.z.free
      dsimp only [rcells, sgb, zsg] at hc hk hz
      rw [hcn] at hc
      have hn1 : ¬ g7 = w.heap.size := by have := HP7.out.l; omega
      have hn2 : ¬ q = w.heap.size := by omega
      clear hcn
      have hX8 := (HP7.out.setE (cs' := rcells { s with nxt := s.nxt + pn, top := s.nxt + pn }) 8 (.int .i64 ((s.nxt : Int) + pn)) (by simp [rcells])).setE (cs' := rcells { s with nxt := s.nxt + pn, top := s.nxt + pn, due := false }) 12 (.bool false) (by simp [rcells])
      have hR8 : Row ((w7.setCell ⟨q, 8, none⟩ (.int .i64 ((s.nxt : Int) + pn))).setCell ⟨q, 12, none⟩ (.bool false)) w.heap.size 5 1 (.slice A9 many c9) many (ds.map (Value.int .u8)) := (HP7.out.setE (cs' := rcells { s with nxt := s.nxt + pn, top := s.nxt + pn }) 8 (.int .i64 ((s.nxt : Int) + pn)) (by simp [rcells])).rowE (HP7.out.rowE HR7.out 8 _) 12 _
      have HD : Hid (SayP w B q 66 (rcells S') vo vi s.said s.got SG (.returned (sgc SG.seq SG.ack SG.flags SG.window A9 many c9)) _) := Lib.hid (SPos.done (sg := SG) (by rw [HSG.out, HNX.out, HMX.out]; exact hX8) (by rw [HSG.out]; exact HDL.out.symm) (by rw [HSG.out]; exact hR8))
      rw [HSG.out] at HD
      dsimp only at HD
      clear hX8 hR8
      go_wp2
      exact bodyPost_ret (v := sgc (s.seqI s.nxt) 0 fl (64 - ((s.got.length : Int) - s.rd)) A9 many c9) (by simp [results, Try.results96, go_sem, sgc, hz, hlz, hn1, hn2]) rfl (by rw [HSG.out]; exact HD.out)
    · have d9 : decide ((s.top : Int) < (s.nxt : Int) + pn) = false := by simp; omega
      have HMX : Hid (max s.top (s.nxt + pn) = s.top) := Lib.hid (by omega)
      clear hbt hcn
      go_wp2_with fail
      go_quiet (fail)
      obtain ⟨w7, hw7⟩ : ∃ w7, w7 = W6.drewN nq := ⟨_, rfl⟩
      rw [← hw7]
      have HP7 : Hid (SPos w B q 66 vo vi s.said s.got w7 (rcells { s with nxt := s.nxt + pn }) g7 (sgb (s.seqI s.nxt) 0 fl (64 - ((s.got.length : Int) - s.rd)) A9 many c9)) := Lib.hid (by rw [hw7]; exact HP6.out.1.drewN _)
      have HR7 : Hid (Row w7 w.heap.size 5 1 (.slice A9 many c9) many (ds.map (Value.int .u8))) := Lib.hid (by rw [hw7]; exact HP6.out.2)
      clear hw7 hc hlt
      have hcn : ((s.nxt + pn : Nat) : Int) = (s.nxt : Int) + pn := by omega
      have hc := HP7.out.o.blk.cell
      have hk := HP7.out.k.cell
      have hz := HP7.out.z.cell
      have hlt := HP7.out.o.blk.lt
      have hlk := HP7.out.k.lt
      have hlz := HP7.out.z.lt
      have hfz := HP7.out.o.blk.free
      have hfk := HP7.out.k.free
      have hfw := HP7.out.z.free
      dsimp only [rcells, sgb, zsg] at hc hk hz
      rw [hcn] at hc
      have hn1 : ¬ g7 = w.heap.size := by have := HP7.out.l; omega
      have hn2 : ¬ q = w.heap.size := by omega
      clear hcn
      have hX8 := HP7.out.setE (cs' := rcells { s with nxt := s.nxt + pn, due := false }) 12 (.bool false) (by simp [rcells])
      have hR8 : Row (w7.setCell ⟨q, 12, none⟩ (.bool false)) w.heap.size 5 1 (.slice A9 many c9) many (ds.map (Value.int .u8)) := HP7.out.rowE HR7.out 12 _
      have HD : Hid (SayP w B q 66 (rcells S') vo vi s.said s.got SG (.returned (sgc SG.seq SG.ack SG.flags SG.window A9 many c9)) _) := Lib.hid (SPos.done (sg := SG) (by rw [HSG.out, HNX.out, HMX.out]; exact hX8) (by rw [HSG.out]; exact HDL.out.symm) (by rw [HSG.out]; exact hR8))
      rw [HSG.out] at HD
      dsimp only at HD
      clear hX8 hR8
      go_wp2
      exact bodyPost_ret (v := sgc (s.seqI s.nxt) 0 fl (64 - ((s.got.length : Int) - s.rd)) A9 many c9) (by simp [results, Try.results96, go_sem, sgc, hz, hlz, hn1, hn2]) rfl (by rw [HSG.out]; exact HD.out)
set_option maxHeartbeats 4000000 in
set_option maxRecDepth 100000 in
theorem rsay_none (h : RSt w B q s vo vi) (hB : B ≤ w.heap.size) (fl : Int) (hfl : fl = 0 ∨ fl = 1 ∨ fl = 4) (hst : 2 < s.st) (hn1 : s.nxt ≤ 1000000) (ht1 : s.top ≤ 1000000) (hgm : s.got.length ≤ 1000000) (hrd : s.rd ≤ s.got.length) (pn : Nat) (hpn : (pn : Int) = ((0 : Nat) : Int) + fl % 2 + fl / 4 % 2) :
    Calls Try.prog 96 #[.pointer (some ⟨q, 0, none⟩), .int .i64 fl, .int .i64 0] w (SayP w B q 66 (rcells (s.sayS pn)) vo vi s.said s.got (s.saySg fl 0)) := by
  obtain ⟨i0, ii, hz0, hz1, hz2⟩ := info_parts pu8info
  have hfr : 0 ≤ fl ∧ fl ≤ 7 := by omega
  have hp37 : pn ≤ 37 := by omega
  have hb0 : Below w.heap.size w (w.alloc (.cells zsg 25)) := (Below.refl _ _).alloc (Nat.le_refl _) _
  have HB0 : Hid (Below (w.heap.size + 1) (w.alloc (.cells zsg 25)) (w.alloc (.cells zsg 25))) := Lib.hid (Below.refl _ _)
  have HTO : Hid (∀ w', Below (w.heap.size + 1) (w.alloc (.cells zsg 25)) w' → Below w.heap.size w w') := Lib.hid (fun w' hb => hb0.trans (hb.mono (by omega)))
  have HOB := Lib.hid h
  have HFP := Lib.hid (fun k hk => (Ob2.lt h k hk).2)
  have HQ : Hid (∀ w', Below (w.heap.size + 1) (w.alloc (.cells zsg 25)) w' → Calls Try.prog 99 #[.pointer (some ⟨q, 0, none⟩), .int .i64 s.nxt] w' fun e w2 => e = .returned (.int .u32 (s.seqI s.nxt)) ∧ w' = w2) := Lib.hid (fun w' hb => rseq (Ob2.grow HOB.out (HTO.out w' hb)) s.nxt)
  have HSP := Lib.hid (fun (f : Int) (A7 : Option Addr) (n7 c7 : Nat) (hn7 : n7 ≤ 32) (a wn : Int) W => segSpan_any (s.seqI s.nxt) a f wn A7 n7 c7 W (by unfold maxLen; omega))
  have hgl := (Ob2.blk h).lt
  obtain ⟨SG, hSG⟩ : ∃ SG, s.saySg fl 0 = SG := ⟨_, rfl⟩
  obtain ⟨S', hX'⟩ : ∃ S', s.sayS pn = S' := ⟨_, rfl⟩
  rw [hSG, hX']
  have HWN : Hid (s.winI = 64 - ((s.got.length : Int) - s.rd)) := Lib.hid (by unfold Sm.winI; rw [s.inn_len]; omega)
  have HSG : Hid (SG = ⟨s.seqI s.nxt, s.awI, fl + 2, 64 - ((s.got.length : Int) - s.rd), []⟩) := Lib.hid (by rw [← hSG]; unfold Sm.saySg; rw [if_pos hst, if_pos hst, HWN.out]; rfl)
  have HNX : Hid (S' = { s with nxt := s.nxt + pn, top := max s.top (s.nxt + pn), due := false }) := Lib.hid hX'.symm
  have HST : Hid (2 < s.st) := Lib.hid hst
  obtain ⟨A0, c0, A', c', rfl, rfl, h1, h2, h3, h4⟩ := h.look
  obtain ⟨vo, hvo⟩ : ∃ v, v = Value.slice A0 s.said.length c0 := ⟨_, rfl⟩
  obtain ⟨vi, hvi⟩ : ∃ v, v = Value.slice A' s.got.length c' := ⟨_, rfl⟩
  rw [← hvo, ← hvi] at HOB HFP ⊢
  have HVO := Lib.hid hvo
  have HVI := Lib.hid hvi
  have HK : Hid (∀ w', Below (w.heap.size + 1) (w.alloc (.cells zsg 25)) w' → w'.cell? ⟨q, 4, none⟩ = some (.slice A' s.got.length c') ∧ w'.cell? ⟨q, 5, none⟩ = some (.int .i64 s.rd) ∧ w'.cell? ⟨q, 7, none⟩ = some (.int .i64 s.nxt)) := Lib.hid (fun w' hb => by
    have hc := (Ob2.grow HOB.out (HTO.out w' hb)).blk.cell
    exact ⟨(hc 4).trans (congrArg some HVI.out), hc 5, hc 7⟩)
  clear h hb0 hSG hX' hst hvo hvi hB
  go_enter Try.func96, Try.ntmps96
  go_wp2_with fail
  refine wp_region_walk (fun w' => Below (w.heap.size + 1) (w.alloc (.cells zsg 25)) w' ∧ w.heap.size + 1 ≤ w'.heap.size) [[], [], [(9, 1)], [(10, 2)], [(11, 3)], [(8, 0), (12, 4)], [], [], [(15, 7)], [(16, 8)], [(17, 9)], [(18, 10)], [], [(20, 12)], [(21, 13)], [(22, 14)], [(19, 11), (23, 15)], [(24, 16)], [(13, 5), (14, 6), (25, 17)], []]
    [(8, 0), (9, 1), (10, 2), (11, 3), (12, 4), (13, 5), (14, 6), (15, 7), (16, 8), (17, 9), (18, 10), (19, 11), (20, 12), (21, 13), (22, 14), (23, 15), (24, 16), (25, 17), (26, 18), (7, 19)] (by kernel_rfl) (by kernel_rfl) (by kernel_rfl) ⟨HB0.out.drew, by have := HB0.out.size; simp⟩ ?_
  apply Flow.det_step
  · go_light
    intro w1 hC1
    simp only [Flow.fill, Flow.after, Flow.at_, List.nil_append, List.cons_append, List.getD_cons_zero, List.getD_cons_succ, det, forall_eq, List.setIfInBounds_toArray, List.set_cons_zero, List.set_cons_succ, List.drop, List.length]
    obtain ⟨hb1, hsz1⟩ := hC1
    obtain ⟨k4, k5, k7⟩ := HK.out w1 hb1
    go_wp2
    exact Flow.post_det ⟨hb1, hsz1⟩ (Grow.refl _) rfl rfl
  apply Flow.det_step
  · go_light
    intro w1 hC1
    simp only [Flow.fill, Flow.after, Flow.at_, List.nil_append, List.cons_append, List.getD_cons_zero, List.getD_cons_succ, det, forall_eq, List.setIfInBounds_toArray, List.set_cons_zero, List.set_cons_succ, List.drop, List.length]
    obtain ⟨hb1, hsz1⟩ := hC1
    obtain ⟨k4, k5, k7⟩ := HK.out w1 hb1
    go_wp2
    exact Flow.post_det ⟨hb1, hsz1⟩ (Grow.refl _) rfl rfl
  apply Flow.det_step
  · go_light
    intro w1 hC1
    simp only [Flow.fill, Flow.after, Flow.at_, List.nil_append, List.cons_append, List.getD_cons_zero, List.getD_cons_succ, det, forall_eq, List.setIfInBounds_toArray, List.set_cons_zero, List.set_cons_succ, List.drop, List.length]
    obtain ⟨hb1, hsz1⟩ := hC1
    obtain ⟨k4, k5, k7⟩ := HK.out w1 hb1
    go_wp2
    exact Flow.post_det ⟨hb1, hsz1⟩ (Grow.refl _) rfl rfl
  apply Flow.det_step
  · go_light
    intro w1 hC1
    simp only [Flow.fill, Flow.after, Flow.at_, List.nil_append, List.cons_append, List.getD_cons_zero, List.getD_cons_succ, det, forall_eq, List.setIfInBounds_toArray, List.set_cons_zero, List.set_cons_succ, List.drop, List.length]
    obtain ⟨hb1, hsz1⟩ := hC1
    obtain ⟨k4, k5, k7⟩ := HK.out w1 hb1
    go_wp2
    exact Flow.post_det ⟨hb1, hsz1⟩ (Grow.refl _) rfl rfl
  apply Flow.det_step
  · go_light
    intro w1 hC1
    simp only [Flow.fill, Flow.after, Flow.at_, List.nil_append, List.cons_append, List.getD_cons_zero, List.getD_cons_succ, det, forall_eq, List.setIfInBounds_toArray, List.set_cons_zero, List.set_cons_succ, List.drop, List.length]
    obtain ⟨hb1, hsz1⟩ := hC1
    obtain ⟨k4, k5, k7⟩ := HK.out w1 hb1
    go_wp2
    exact Flow.post_det ⟨hb1, hsz1⟩ (Grow.refl _) rfl rfl
  apply Flow.det_step
  · go_light
    intro w1 hC1
    simp only [Flow.fill, Flow.after, Flow.at_, List.nil_append, List.cons_append, List.getD_cons_zero, List.getD_cons_succ, det, forall_eq, List.setIfInBounds_toArray, List.set_cons_zero, List.set_cons_succ, List.drop, List.length]
    obtain ⟨hb1, hsz1⟩ := hC1
    obtain ⟨k4, k5, k7⟩ := HK.out w1 hb1
    go_wp2_with (go_at_call 99; refine (HQ.out w1 hb1).mono ?_; rintro e w4 ⟨rfl, rfl⟩)
    exact Flow.post_det ⟨hb1, hsz1⟩ (Grow.refl _) rfl rfl
  apply Flow.det_step
  · go_light
    intro w1 hC1
    simp only [Flow.fill, Flow.after, Flow.at_, List.nil_append, List.cons_append, List.getD_cons_zero, List.getD_cons_succ, det, forall_eq, List.setIfInBounds_toArray, List.set_cons_zero, List.set_cons_succ, List.drop, List.length]
    obtain ⟨hb1, hsz1⟩ := hC1
    obtain ⟨k4, k5, k7⟩ := HK.out w1 hb1
    go_wp2
    exact Flow.post_det ⟨hb1, hsz1⟩ (Grow.refl _) rfl rfl
  apply Flow.det_step
  · go_light
    intro w1 hC1
    simp only [Flow.fill, Flow.after, Flow.at_, List.nil_append, List.cons_append, List.getD_cons_zero, List.getD_cons_succ, det, forall_eq, List.setIfInBounds_toArray, List.set_cons_zero, List.set_cons_succ, List.drop, List.length]
    obtain ⟨hb1, hsz1⟩ := hC1
    obtain ⟨k4, k5, k7⟩ := HK.out w1 hb1
    go_wp2
    exact Flow.post_det ⟨hb1, hsz1⟩ (Grow.refl _) rfl rfl
  apply Flow.det_step
  · go_light
    intro w1 hC1
    simp only [Flow.fill, Flow.after, Flow.at_, List.nil_append, List.cons_append, List.getD_cons_zero, List.getD_cons_succ, det, forall_eq, List.setIfInBounds_toArray, List.set_cons_zero, List.set_cons_succ, List.drop, List.length]
    obtain ⟨hb1, hsz1⟩ := hC1
    obtain ⟨k4, k5, k7⟩ := HK.out w1 hb1
    go_wp2
    exact Flow.post_det ⟨hb1, hsz1⟩ (Grow.refl _) rfl rfl
  apply Flow.det_step
  · go_light
    intro w1 hC1
    simp only [Flow.fill, Flow.after, Flow.at_, List.nil_append, List.cons_append, List.getD_cons_zero, List.getD_cons_succ, det, forall_eq, List.setIfInBounds_toArray, List.set_cons_zero, List.set_cons_succ, List.drop, List.length]
    obtain ⟨hb1, hsz1⟩ := hC1
    obtain ⟨k4, k5, k7⟩ := HK.out w1 hb1
    go_wp2
    exact Flow.post_det ⟨hb1, hsz1⟩ (Grow.refl _) rfl rfl
  apply Flow.det_step
  · go_light
    intro w1 hC1
    simp only [Flow.fill, Flow.after, Flow.at_, List.nil_append, List.cons_append, List.getD_cons_zero, List.getD_cons_succ, det, forall_eq, List.setIfInBounds_toArray, List.set_cons_zero, List.set_cons_succ, List.drop, List.length]
    obtain ⟨hb1, hsz1⟩ := hC1
    obtain ⟨k4, k5, k7⟩ := HK.out w1 hb1
    go_wp2
    exact Flow.post_det ⟨hb1, hsz1⟩ (Grow.refl _) rfl rfl
  apply Flow.det_step
  · go_light
    intro w1 hC1
    simp only [Flow.fill, Flow.after, Flow.at_, List.nil_append, List.cons_append, List.getD_cons_zero, List.getD_cons_succ, det, forall_eq, List.setIfInBounds_toArray, List.set_cons_zero, List.set_cons_succ, List.drop, List.length]
    obtain ⟨hb1, hsz1⟩ := hC1
    obtain ⟨k4, k5, k7⟩ := HK.out w1 hb1
    go_wp2
    exact Flow.post_det ⟨hb1, hsz1⟩ (Grow.refl _) rfl rfl
  apply Flow.det_step
  · go_light
    intro w1 hC1
    simp only [Flow.fill, Flow.after, Flow.at_, List.nil_append, List.cons_append, List.getD_cons_zero, List.getD_cons_succ, det, forall_eq, List.setIfInBounds_toArray, List.set_cons_zero, List.set_cons_succ, List.drop, List.length]
    obtain ⟨hb1, hsz1⟩ := hC1
    obtain ⟨k4, k5, k7⟩ := HK.out w1 hb1
    go_wp2
    exact Flow.post_det ⟨hb1, hsz1⟩ (Grow.refl _) rfl rfl
  apply Flow.det_step
  · go_light
    intro w1 hC1
    simp only [Flow.fill, Flow.after, Flow.at_, List.nil_append, List.cons_append, List.getD_cons_zero, List.getD_cons_succ, det, forall_eq, List.setIfInBounds_toArray, List.set_cons_zero, List.set_cons_succ, List.drop, List.length]
    obtain ⟨hb1, hsz1⟩ := hC1
    obtain ⟨k4, k5, k7⟩ := HK.out w1 hb1
    go_wp2
    exact Flow.post_det ⟨hb1, hsz1⟩ (Grow.refl _) rfl rfl
  apply Flow.det_step
  · go_light
    intro w1 hC1
    simp only [Flow.fill, Flow.after, Flow.at_, List.nil_append, List.cons_append, List.getD_cons_zero, List.getD_cons_succ, det, forall_eq, List.setIfInBounds_toArray, List.set_cons_zero, List.set_cons_succ, List.drop, List.length]
    obtain ⟨hb1, hsz1⟩ := hC1
    obtain ⟨k4, k5, k7⟩ := HK.out w1 hb1
    go_wp2
    exact Flow.post_det ⟨hb1, hsz1⟩ (Grow.refl _) rfl rfl
  apply Flow.det_step
  · go_light
    intro w1 hC1
    simp only [Flow.fill, Flow.after, Flow.at_, List.nil_append, List.cons_append, List.getD_cons_zero, List.getD_cons_succ, det, forall_eq, List.setIfInBounds_toArray, List.set_cons_zero, List.set_cons_succ, List.drop, List.length]
    obtain ⟨hb1, hsz1⟩ := hC1
    obtain ⟨k4, k5, k7⟩ := HK.out w1 hb1
    go_wp2
    exact Flow.post_det ⟨hb1, hsz1⟩ (Grow.refl _) rfl rfl
  apply Flow.det_step
  · go_light
    intro w1 hC1
    simp only [Flow.fill, Flow.after, Flow.at_, List.nil_append, List.cons_append, List.getD_cons_zero, List.getD_cons_succ, det, forall_eq, List.setIfInBounds_toArray, List.set_cons_zero, List.set_cons_succ, List.drop, List.length]
    obtain ⟨hb1, hsz1⟩ := hC1
    obtain ⟨k4, k5, k7⟩ := HK.out w1 hb1
    go_wp2
    exact Flow.post_det ⟨hb1, hsz1⟩ (Grow.refl _) rfl rfl
  apply Flow.det_step
  · go_light
    intro w1 hC1
    simp only [Flow.fill, Flow.after, Flow.at_, List.nil_append, List.cons_append, List.getD_cons_zero, List.getD_cons_succ, det, forall_eq, List.setIfInBounds_toArray, List.set_cons_zero, List.set_cons_succ, List.drop, List.length]
    obtain ⟨hb1, hsz1⟩ := hC1
    obtain ⟨k4, k5, k7⟩ := HK.out w1 hb1
    go_wp2
    exact Flow.post_det ⟨hb1, hsz1⟩ (Grow.refl _) rfl rfl
  apply Flow.det_step
  · go_light
    intro w1 hC1
    simp only [Flow.fill, Flow.after, Flow.at_, List.nil_append, List.cons_append, List.getD_cons_zero, List.getD_cons_succ, det, forall_eq, List.setIfInBounds_toArray, List.set_cons_zero, List.set_cons_succ, List.drop, List.length]
    obtain ⟨hb1, hsz1⟩ := hC1
    obtain ⟨k4, k5, k7⟩ := HK.out w1 hb1
    go_wp2
    exact Flow.post_det ⟨hb1, hsz1⟩ (Grow.refl _) rfl rfl
  refine Flow.st_step (⟨fun v W => ∃ g7, v = .pointer (some ⟨g7, 0, none⟩) ∧ w.heap.size + 1 ≤ g7 ∧ g7 < W.heap.size ∧ Blk W g7 zsg 25, fun v W W' hh hg => by obtain ⟨g7, h1, h2, h3, h4⟩ := hh; exact ⟨g7, h1, h2, Nat.lt_of_lt_of_le h3 hg.size, h4.fr (Fr.of_grow hg) (fun h => h)⟩⟩) ?_ ?_
  · go_light
    intro w1 hC1
    simp only [Flow.fill, Flow.after, Flow.at_, List.nil_append, List.cons_append, List.getD_cons_zero, List.getD_cons_succ, det, forall_eq, List.setIfInBounds_toArray, List.set_cons_zero, List.set_cons_succ, List.drop, List.length]
    obtain ⟨hb1, hsz1⟩ := hC1
    obtain ⟨k4, k5, k7⟩ := HK.out w1 hb1
    go_wp2
    exact Flow.post_st ⟨hb1.alloc hsz1 _, by simp; omega⟩ (Grow.alloc _ _) rfl rfl ⟨_, rfl, hsz1, by simp, heap_alloc_new _ _⟩
  intro w1 hC1
  simp only [Flow.fill, Flow.after, Flow.at_, List.nil_append, List.cons_append, List.getD_cons_zero, List.getD_cons_succ, det, forall_eq, List.setIfInBounds_toArray, List.set_cons_zero, List.set_cons_succ, List.drop, List.length]
  rintro _ ⟨g7, rfl, hg7, hg7l, hcs7⟩
  obtain ⟨hb1, hsz1⟩ := hC1
  have hP0 : SPos w B q 66 vo vi s.said s.got w1 (rcells s) g7 zsg :=
    ⟨Ob2.grow HOB.out (HTO.out w1 hb1), (Fr.of_grow (HTO.out w1 hb1)).mono (fun _ _ h => h.elim), Blk.fr (show Blk (w.alloc (.cells zsg 25)) w.heap.size zsg 25 from heap_alloc_new w _) (S := fun k => w.heap.size + 1 ≤ k) (Fr.of_below hb1) (by omega), hcs7, by omega, HFP.out⟩
  have HP0 := Lib.hid hP0
  have hP5 := ((((hP0.setS 0 (.int .u32 (s.seqI s.nxt))).setS 1 (.int .u32 0)).setS 2 (.int .i64 fl)).setS 3 (.int .i64 (64 - ((s.got.length : Int) - s.rd)))).setS 4 (.slice none 0 0)
  have HP5 : Hid (SPos w B q 66 vo vi s.said s.got (((((w1.setCell ⟨g7, 0, none⟩ (.int .u32 (s.seqI s.nxt))).setCell ⟨g7, 1, none⟩ (.int .u32 0)).setCell ⟨g7, 2, none⟩ (.int .i64 fl)).setCell ⟨g7, 3, none⟩ (.int .i64 (64 - ((s.got.length : Int) - s.rd)))).setCell ⟨g7, 4, none⟩ (.slice none 0 0)) (rcells s) g7 (sgb (s.seqI s.nxt) 0 fl (64 - ((s.got.length : Int) - s.rd)) none 0 0)) := Lib.hid (by simpa [zsg, sgb] using hP5)
  have hk := hP0.k.cell
  have hfk := hP0.k.free
  have hlk := hP0.k.lt
  dsimp only [zsg] at hk
  clear hP0 hP5 hcs7
  go_upto_region 2 with fail
  obtain ⟨W1, hWW1⟩ : ∃ W, W = ((((w1.setCell ⟨g7, 0, none⟩ (.int .u32 (s.seqI s.nxt))).setCell ⟨g7, 1, none⟩ (.int .u32 0)).setCell ⟨g7, 2, none⟩ (.int .i64 fl)).setCell ⟨g7, 3, none⟩ (.int .i64 (64 - ((s.got.length : Int) - s.rd)))).setCell ⟨g7, 4, none⟩ (.slice none 0 0) := ⟨_, rfl⟩
  rw [← hWW1]
  have HPW1 : Hid (SPos w B q 66 vo vi s.said s.got W1 (rcells s) g7 (sgb (s.seqI s.nxt) 0 fl (64 - ((s.got.length : Int) - s.rd)) none 0 0)) := Lib.hid (by rw [hWW1]; exact HP5.out)
  clear hWW1 hk hfk hlk
  have hc := HPW1.out.o.blk.cell
  have hk := HPW1.out.k.cell
  have hlt := HPW1.out.o.blk.lt
  have hlk := HPW1.out.k.lt
  have hfz := HPW1.out.o.blk.free
  have hfk := HPW1.out.k.free
  dsimp only [rcells, sgb] at hc hk
  have hgg : ¬ g7 = q := by have := HP0.out.l; omega
  clear HP5
  obtain ⟨A9, hA9⟩ : ∃ A : Option Addr, A = none := ⟨_, rfl⟩
  obtain ⟨c9, hc9⟩ : ∃ c : Nat, c = 0 := ⟨_, rfl⟩
  obtain ⟨many, hmn⟩ : ∃ k : Nat, k = 0 := ⟨_, rfl⟩
  obtain ⟨ds, hds⟩ : ∃ d : List Int, d = [] := ⟨_, rfl⟩
  have HXR : Hid (Row W1 w.heap.size 5 1 (.slice A9 many c9) many (ds.map (Value.int .u8))) := Lib.hid (by rw [hA9, hc9, hmn, hds]; exact Row.nil _ _ _ _)
  have HX : Hid (SPos w B q 66 vo vi s.said s.got W1 (rcells s) g7 (sgb (s.seqI s.nxt) 0 fl (64 - ((s.got.length : Int) - s.rd)) A9 many c9)) := Lib.hid (by rw [hA9, hc9, hmn]; exact HPW1.out)
  rw [← hds] at HSG
  have HDL : Hid (ds.length = many) := Lib.hid (by rw [hds, hmn]; rfl)
  have hm32 : many ≤ 32 := by omega
  have hpn' : (pn : Int) = (many : Int) + fl % 2 + fl / 4 % 2 := by rw [hmn]; exact hpn
  clear hpn
  have hpn := hpn'
  clear hpn' hA9 hc9 hmn hds
  go_upto_region 4 with fail
  obtain ⟨W2, hWW2⟩ : ∃ W, W = W1 := ⟨_, rfl⟩
  rw [← hWW2]
  have HPW2 : Hid (SPos w B q 66 vo vi s.said s.got W2 (rcells s) g7 (sgb (s.seqI s.nxt) 0 fl (64 - ((s.got.length : Int) - s.rd)) A9 many c9)) := Lib.hid (by rw [hWW2]; exact HX.out)
  have HRW2 : Hid (Row W2 w.heap.size 5 1 (.slice A9 many c9) many (ds.map (Value.int .u8))) := Lib.hid (by rw [hWW2]; exact HXR.out)
  clear hWW2 hc hk hlt hlk hfz hfk
  have hc := HPW2.out.o.blk.cell
  have hk := HPW2.out.k.cell
  have hlt := HPW2.out.o.blk.lt
  have hlk := HPW2.out.k.lt
  have hfz := HPW2.out.o.blk.free
  have hfk := HPW2.out.k.free
  dsimp only [rcells, sgb] at hc hk
  clear HX HXR
  have HPN := Lib.hid hpn
  clear hpn
  have d1 : decide (2 < s.st) = true := by simpa using HST.out
  have HX : Hid (SPos w B q 66 vo vi s.said s.got (W2.setCell ⟨g7, 2, none⟩ (.int .i64 (fl + 2))) (rcells s) g7 (sgb (s.seqI s.nxt) 0 (fl + 2) (64 - ((s.got.length : Int) - s.rd)) A9 many c9)) := Lib.hid (by
    have hX := HPW2.out.setS 2 (.int .i64 (fl + 2))
    simpa [sgb] using hX)
  have HXR := Lib.hid (HPW2.out.rowS HRW2.out 2 (.int .i64 (fl + 2)))
  go_wp2_with fail
  refine (rawaited HX.out.o).mono ?_
  rintro e w6 ⟨rfl, hb6⟩
  have HP6 := Lib.hid (HX.out.grow hb6)
  have HR6 := Lib.hid (HXR.out.grow hb6)
  have hk6 := HP6.out.k.cell
  have hlk6 := HP6.out.k.lt
  have hfk6 := HP6.out.k.free
  have HY : Hid (SPos w B q 66 vo vi s.said s.got (w6.setCell ⟨g7, 1, none⟩ (.int .u32 s.awI)) (rcells s) g7 (sgb (s.seqI s.nxt) s.awI (fl + 2) (64 - ((s.got.length : Int) - s.rd)) A9 many c9)) := Lib.hid (by
    have hX := HP6.out.setS 1 (.int .u32 s.awI)
    simpa [sgb] using hX)
  have HYR := Lib.hid (HP6.out.rowS HR6.out 1 (.int .u32 s.awI))
  clear hb6 HX HXR
  go_upto_region 7 with fail
  obtain ⟨W3, hWW3⟩ : ∃ W, W = w6.setCell ⟨g7, 1, none⟩ (.int .u32 s.awI) := ⟨_, rfl⟩
  rw [← hWW3]
  have HPW3 : Hid (SPos w B q 66 vo vi s.said s.got W3 (rcells s) g7 (sgb (s.seqI s.nxt) s.awI (fl + 2) (64 - ((s.got.length : Int) - s.rd)) A9 many c9)) := Lib.hid (by rw [hWW3]; exact HY.out)
  have HRW3 : Hid (Row W3 w.heap.size 5 1 (.slice A9 many c9) many (ds.map (Value.int .u8))) := Lib.hid (by rw [hWW3]; exact HYR.out)
  clear hWW3 hc hk hlt hlk hfz hfk hk6 hlk6 hfk6
  have hc := HPW3.out.o.blk.cell
  have hk := HPW3.out.k.cell
  have hlt := HPW3.out.o.blk.lt
  have hlk := HPW3.out.k.lt
  have hfz := HPW3.out.o.blk.free
  have hfk := HPW3.out.k.free
  dsimp only [rcells, sgb] at hc hk
  clear HY HYR HP6 HR6
  have hwr : IntKind.i64.wrap ((s.nxt : Int) + pn) = (s.nxt : Int) + pn := IntWalk.i64_in _ (by omega)
  have HWR := Lib.hid hwr
  clear hwr
  have HK5 := Lib.hid (fun w5 (hb5 : Below W3.drew.heap.size W3.drew w5) => (show w5.cell? ⟨q, 7, none⟩ = some (.int .i64 s.nxt) ∧ (∀ j, w5.frozen? ⟨q, j, none⟩ = false) ∧ q < w5.heap.size from
    have h5 := (HPW3.out.grow (((Below.refl W3.heap.size W3).drew).trans hb5)).o
    ⟨h5.blk.cell 7, h5.blk.free, h5.blk.lt⟩))
  have HS5 := Lib.hid (fun w5 (hb5 : Below W3.drew.heap.size W3.drew w5) => (show SPos w B q 66 vo vi s.said s.got (w5.setCell ⟨q, 7, none⟩ (.int .i64 (IntKind.i64.wrap ((s.nxt : Int) + pn)))) (rcells { s with nxt := s.nxt + pn }) g7 (sgb (s.seqI s.nxt) s.awI (fl + 2) (64 - ((s.got.length : Int) - s.rd)) A9 many c9) ∧ Row (w5.setCell ⟨q, 7, none⟩ (.int .i64 (IntKind.i64.wrap ((s.nxt : Int) + pn)))) w.heap.size 5 1 (.slice A9 many c9) many (ds.map (Value.int .u8)) from
    have hb : Below W3.heap.size W3 w5 := ((Below.refl W3.heap.size W3).drew).trans hb5
    have h5 := HPW3.out.grow hb
    ⟨h5.setE (cs' := rcells { s with nxt := s.nxt + pn }) 7 (.int .i64 (IntKind.i64.wrap ((s.nxt : Int) + pn))) (by rw [HWR.out]; simp [rcells]), h5.rowE (HRW3.out.grow hb) 7 _⟩))
  have hspe : spanI many (fl + 2) = pn := by rw [spanI_small hm32]; unfold spanF; have := HPN.out; omega
  have HSPX := Lib.hid (fun W => HSP.out (fl + 2) A9 many c9 hm32 s.awI (64 - ((s.got.length : Int) - s.rd)) W)
  rw [hspe] at HSPX
  clear hspe
  go_region_with (go_at_call 13; refine (HSPX.out _).mono ?_; rintro e w5 ⟨rfl, hb5⟩; obtain ⟨q1, q2, q3⟩ := HK5.out w5 hb5)
  all_goals
    have HS6 := Lib.hid (HS5.out w5 hb5)
    clear hb5 q1 q2 q3
    first
    | (obtain ⟨W6, hW6⟩ : ∃ W, W = w5.setCell ⟨q, 7, none⟩ (.int .i64 (IntKind.i64.wrap ((s.nxt : Int) + pn))) := ⟨_, rfl⟩
       have HP6 : Hid (SPos w B q 66 vo vi s.said s.got W6 (rcells { s with nxt := s.nxt + pn }) g7 (sgb (s.seqI s.nxt) s.awI (fl + 2) (64 - ((s.got.length : Int) - s.rd)) A9 many c9) ∧ Row W6 w.heap.size 5 1 (.slice A9 many c9) many (ds.map (Value.int .u8))) := Lib.hid (by rw [hW6]; exact HS6.out)
       rw [← hW6]
       clear hW6 HS6)
    | (obtain ⟨W6, hW6⟩ : ∃ W, W = (w5.setCell ⟨q, 7, none⟩ (.int .i64 (IntKind.i64.wrap ((s.nxt : Int) + pn)))).drew := ⟨_, rfl⟩
       have HP6 : Hid (SPos w B q 66 vo vi s.said s.got W6 (rcells { s with nxt := s.nxt + pn }) g7 (sgb (s.seqI s.nxt) s.awI (fl + 2) (64 - ((s.got.length : Int) - s.rd)) A9 many c9) ∧ Row W6 w.heap.size 5 1 (.slice A9 many c9) many (ds.map (Value.int .u8))) := Lib.hid (by rw [hW6]; exact ⟨HS6.out.1.drew, HS6.out.2.drew⟩)
       rw [← hW6]
       clear hW6 HS6)
    clear hc hk hlt hlk hfz hfk HK5 HS5
    have hcn : ((s.nxt + pn : Nat) : Int) = (s.nxt : Int) + pn := by omega
    have hc := HP6.out.1.o.blk.cell
    have hlt := HP6.out.1.o.blk.lt
    dsimp only [rcells] at hc
    rw [hcn] at hc
    by_cases hbt : s.top < s.nxt + pn
    · have d9 : decide ((s.top : Int) < (s.nxt : Int) + pn) = true := by simp; omega
      have HMX : Hid (max s.top (s.nxt + pn) = s.nxt + pn) := Lib.hid (by omega)
      clear hbt hcn
      go_wp2_with fail
      go_quiet (fail)
      obtain ⟨w7, hw7⟩ : ∃ w7, w7 = W6.drewN nq := ⟨_, rfl⟩
      rw [← hw7]
      have HP7 : Hid (SPos w B q 66 vo vi s.said s.got w7 (rcells { s with nxt := s.nxt + pn }) g7 (sgb (s.seqI s.nxt) s.awI (fl + 2) (64 - ((s.got.length : Int) - s.rd)) A9 many c9)) := Lib.hid (by rw [hw7]; exact HP6.out.1.drewN _)
      have HR7 : Hid (Row w7 w.heap.size 5 1 (.slice A9 many c9) many (ds.map (Value.int .u8))) := Lib.hid (by rw [hw7]; exact HP6.out.2)
      clear hw7 hc hlt
      have hcn : ((s.nxt + pn : Nat) : Int) = (s.nxt : Int) + pn := by omega
      have hc := HP7.out.o.blk.cell
      have hk := HP7.out.k.cell
      have hz := HP7.out.z.cell
      have hlt := HP7.out.o.blk.lt
      have hlk := HP7.out.k.lt
      have hlz := HP7.out.z.lt
      have hfz := HP7.out.o.blk.free
      have hfk := HP7.out.k.free
      have hfw := HP7.out.z.free
      dsimp only [rcells, sgb, zsg] at hc hk hz
      rw [hcn] at hc
      have hn1 : ¬ g7 = w.heap.size := by have := HP7.out.l; omega
      have hn2 : ¬ q = w.heap.size := by omega
      clear hcn
      have hX8 := (HP7.out.setE (cs' := rcells { s with nxt := s.nxt + pn, top := s.nxt + pn }) 8 (.int .i64 ((s.nxt : Int) + pn)) (by simp [rcells])).setE (cs' := rcells { s with nxt := s.nxt + pn, top := s.nxt + pn, due := false }) 12 (.bool false) (by simp [rcells])
      have hR8 : Row ((w7.setCell ⟨q, 8, none⟩ (.int .i64 ((s.nxt : Int) + pn))).setCell ⟨q, 12, none⟩ (.bool false)) w.heap.size 5 1 (.slice A9 many c9) many (ds.map (Value.int .u8)) := (HP7.out.setE (cs' := rcells { s with nxt := s.nxt + pn, top := s.nxt + pn }) 8 (.int .i64 ((s.nxt : Int) + pn)) (by simp [rcells])).rowE (HP7.out.rowE HR7.out 8 _) 12 _
      have HD : Hid (SayP w B q 66 (rcells S') vo vi s.said s.got SG (.returned (sgc SG.seq SG.ack SG.flags SG.window A9 many c9)) _) := Lib.hid (SPos.done (sg := SG) (by rw [HSG.out, HNX.out, HMX.out]; exact hX8) (by rw [HSG.out]; exact HDL.out.symm) (by rw [HSG.out]; exact hR8))
      rw [HSG.out] at HD
      dsimp only at HD
      clear hX8 hR8
      go_wp2
      exact bodyPost_ret (v := sgc (s.seqI s.nxt) s.awI (fl + 2) (64 - ((s.got.length : Int) - s.rd)) A9 many c9) (by simp [results, Try.results96, go_sem, sgc, hz, hlz, hn1, hn2]) rfl (by rw [HSG.out]; exact HD.out)
    · have d9 : decide ((s.top : Int) < (s.nxt : Int) + pn) = false := by simp; omega
      have HMX : Hid (max s.top (s.nxt + pn) = s.top) := Lib.hid (by omega)
      clear hbt hcn
      go_wp2_with fail
      go_quiet (fail)
      obtain ⟨w7, hw7⟩ : ∃ w7, w7 = W6.drewN nq := ⟨_, rfl⟩
      rw [← hw7]
      have HP7 : Hid (SPos w B q 66 vo vi s.said s.got w7 (rcells { s with nxt := s.nxt + pn }) g7 (sgb (s.seqI s.nxt) s.awI (fl + 2) (64 - ((s.got.length : Int) - s.rd)) A9 many c9)) := Lib.hid (by rw [hw7]; exact HP6.out.1.drewN _)
      have HR7 : Hid (Row w7 w.heap.size 5 1 (.slice A9 many c9) many (ds.map (Value.int .u8))) := Lib.hid (by rw [hw7]; exact HP6.out.2)
      clear hw7 hc hlt
      have hcn : ((s.nxt + pn : Nat) : Int) = (s.nxt : Int) + pn := by omega
      have hc := HP7.out.o.blk.cell
      have hk := HP7.out.k.cell
      have hz := HP7.out.z.cell
      have hlt := HP7.out.o.blk.lt
      have hlk := HP7.out.k.lt
      have hlz := HP7.out.z.lt
      have hfz := HP7.out.o.blk.free
      have hfk := HP7.out.k.free
      have hfw := HP7.out.z.free
      dsimp only [rcells, sgb, zsg] at hc hk hz
      rw [hcn] at hc
      have hn1 : ¬ g7 = w.heap.size := by have := HP7.out.l; omega
      have hn2 : ¬ q = w.heap.size := by omega
      clear hcn
      have hX8 := HP7.out.setE (cs' := rcells { s with nxt := s.nxt + pn, due := false }) 12 (.bool false) (by simp [rcells])
      have hR8 : Row (w7.setCell ⟨q, 12, none⟩ (.bool false)) w.heap.size 5 1 (.slice A9 many c9) many (ds.map (Value.int .u8)) := HP7.out.rowE HR7.out 12 _
      have HD : Hid (SayP w B q 66 (rcells S') vo vi s.said s.got SG (.returned (sgc SG.seq SG.ack SG.flags SG.window A9 many c9)) _) := Lib.hid (SPos.done (sg := SG) (by rw [HSG.out, HNX.out, HMX.out]; exact hX8) (by rw [HSG.out]; exact HDL.out.symm) (by rw [HSG.out]; exact hR8))
      rw [HSG.out] at HD
      dsimp only at HD
      clear hX8 hR8
      go_wp2
      exact bodyPost_ret (v := sgc (s.seqI s.nxt) s.awI (fl + 2) (64 - ((s.got.length : Int) - s.rd)) A9 many c9) (by simp [results, Try.results96, go_sem, sgc, hz, hlz, hn1, hn2]) rfl (by rw [HSG.out]; exact HD.out)
set_option maxHeartbeats 4000000 in
set_option maxRecDepth 100000 in
theorem rsay_some (h : RSt w B q s vo vi) (hB : B ≤ w.heap.size) (fl : Int) (hfl : fl = 0 ∨ fl = 1 ∨ fl = 4) (many : Nat) (hmany : 0 < many) (hm32 : many ≤ 32) (kn : Nat) (hkn : s.nxt = kn + 1) (hle : kn + many ≤ s.said.length) (hsl : s.said.length ≤ 1000000) (hst : 2 < s.st) (hn1 : s.nxt ≤ 1000000) (ht1 : s.top ≤ 1000000) (hgm : s.got.length ≤ 1000000) (hrd : s.rd ≤ s.got.length) (pn : Nat) (hpn : (pn : Int) = (many : Int) + fl % 2 + fl / 4 % 2) :
    Calls Try.prog 96 #[.pointer (some ⟨q, 0, none⟩), .int .i64 fl, .int .i64 many] w (SayP w B q 66 (rcells (s.sayS pn)) vo vi s.said s.got (s.saySg fl many)) := by
  obtain ⟨i0, ii, hz0, hz1, hz2⟩ := info_parts pu8info
  have hfr : 0 ≤ fl ∧ fl ≤ 7 := by omega
  have hp37 : pn ≤ 37 := by omega
  have hb0 : Below w.heap.size w (w.alloc (.cells zsg 25)) := (Below.refl _ _).alloc (Nat.le_refl _) _
  have HB0 : Hid (Below (w.heap.size + 1) (w.alloc (.cells zsg 25)) (w.alloc (.cells zsg 25))) := Lib.hid (Below.refl _ _)
  have HTO : Hid (∀ w', Below (w.heap.size + 1) (w.alloc (.cells zsg 25)) w' → Below w.heap.size w w') := Lib.hid (fun w' hb => hb0.trans (hb.mono (by omega)))
  have HOB := Lib.hid h
  have HFP := Lib.hid (fun k hk => (Ob2.lt h k hk).2)
  have HQ : Hid (∀ w', Below (w.heap.size + 1) (w.alloc (.cells zsg 25)) w' → Calls Try.prog 99 #[.pointer (some ⟨q, 0, none⟩), .int .i64 s.nxt] w' fun e w2 => e = .returned (.int .u32 (s.seqI s.nxt)) ∧ w' = w2) := Lib.hid (fun w' hb => rseq (Ob2.grow HOB.out (HTO.out w' hb)) s.nxt)
  have HSP := Lib.hid (fun (f : Int) (A7 : Option Addr) (n7 c7 : Nat) (hn7 : n7 ≤ 32) (a wn : Int) W => segSpan_any (s.seqI s.nxt) a f wn A7 n7 c7 W (by unfold maxLen; omega))
  have hgl := (Ob2.blk h).lt
  obtain ⟨SG, hSG⟩ : ∃ SG, s.saySg fl many = SG := ⟨_, rfl⟩
  obtain ⟨S', hX'⟩ : ∃ S', s.sayS pn = S' := ⟨_, rfl⟩
  rw [hSG, hX']
  have HWN : Hid (s.winI = 64 - ((s.got.length : Int) - s.rd)) := Lib.hid (by unfold Sm.winI; rw [s.inn_len]; omega)
  have HSG : Hid (SG = ⟨s.seqI s.nxt, s.awI, fl + 2, 64 - ((s.got.length : Int) - s.rd), (s.said.drop kn).take many⟩) := Lib.hid (by rw [← hSG]; unfold Sm.saySg; rw [if_pos hst, if_pos hst, HWN.out]; rw [hkn]; rfl)
  have HNX : Hid (S' = { s with nxt := s.nxt + pn, top := max s.top (s.nxt + pn), due := false }) := Lib.hid hX'.symm
  have HST : Hid (2 < s.st) := Lib.hid hst
  obtain ⟨A0, c0, A', c', rfl, rfl, h1, h2, h3, h4⟩ := h.look
  obtain ⟨vo, hvo⟩ : ∃ v, v = Value.slice A0 s.said.length c0 := ⟨_, rfl⟩
  obtain ⟨vi, hvi⟩ : ∃ v, v = Value.slice A' s.got.length c' := ⟨_, rfl⟩
  rw [← hvo, ← hvi] at HOB HFP ⊢
  have HVO := Lib.hid hvo
  have HVI := Lib.hid hvi
  have HK : Hid (∀ w', Below (w.heap.size + 1) (w.alloc (.cells zsg 25)) w' → w'.cell? ⟨q, 4, none⟩ = some (.slice A' s.got.length c') ∧ w'.cell? ⟨q, 5, none⟩ = some (.int .i64 s.rd) ∧ w'.cell? ⟨q, 7, none⟩ = some (.int .i64 s.nxt)) := Lib.hid (fun w' hb => by
    have hc := (Ob2.grow HOB.out (HTO.out w' hb)).blk.cell
    exact ⟨(hc 4).trans (congrArg some HVI.out), hc 5, hc 7⟩)
  have HSAID : Hid (∀ W, Ob2 W B q 66 (rcells s) vo vi s.said s.got → RB W W.heap.size A0 s.said.length s.said) := Lib.hid (fun W ho => by
    have hr := ho.ro
    rw [HVO.out] at hr
    exact ⟨hr.reads, ho.bo⟩)
  clear h hb0 hSG hX' hst hvo hvi hB
  have HKN := Lib.hid hkn
  clear hkn
  go_enter Try.func96, Try.ntmps96
  go_wp2_with fail
  refine wp_region_walk (fun w' => Below (w.heap.size + 1) (w.alloc (.cells zsg 25)) w' ∧ w.heap.size + 1 ≤ w'.heap.size) [[], [], [(9, 1)], [(10, 2)], [(11, 3)], [(8, 0), (12, 4)], [], [], [(15, 7)], [(16, 8)], [(17, 9)], [(18, 10)], [], [(20, 12)], [(21, 13)], [(22, 14)], [(19, 11), (23, 15)], [(24, 16)], [(13, 5), (14, 6), (25, 17)], []]
    [(8, 0), (9, 1), (10, 2), (11, 3), (12, 4), (13, 5), (14, 6), (15, 7), (16, 8), (17, 9), (18, 10), (19, 11), (20, 12), (21, 13), (22, 14), (23, 15), (24, 16), (25, 17), (26, 18), (7, 19)] (by kernel_rfl) (by kernel_rfl) (by kernel_rfl) ⟨HB0.out.drew, by have := HB0.out.size; simp⟩ ?_
  apply Flow.det_step
  · go_light
    intro w1 hC1
    simp only [Flow.fill, Flow.after, Flow.at_, List.nil_append, List.cons_append, List.getD_cons_zero, List.getD_cons_succ, det, forall_eq, List.setIfInBounds_toArray, List.set_cons_zero, List.set_cons_succ, List.drop, List.length]
    obtain ⟨hb1, hsz1⟩ := hC1
    obtain ⟨k4, k5, k7⟩ := HK.out w1 hb1
    go_wp2
    exact Flow.post_det ⟨hb1, hsz1⟩ (Grow.refl _) rfl rfl
  apply Flow.det_step
  · go_light
    intro w1 hC1
    simp only [Flow.fill, Flow.after, Flow.at_, List.nil_append, List.cons_append, List.getD_cons_zero, List.getD_cons_succ, det, forall_eq, List.setIfInBounds_toArray, List.set_cons_zero, List.set_cons_succ, List.drop, List.length]
    obtain ⟨hb1, hsz1⟩ := hC1
    obtain ⟨k4, k5, k7⟩ := HK.out w1 hb1
    go_wp2
    exact Flow.post_det ⟨hb1, hsz1⟩ (Grow.refl _) rfl rfl
  apply Flow.det_step
  · go_light
    intro w1 hC1
    simp only [Flow.fill, Flow.after, Flow.at_, List.nil_append, List.cons_append, List.getD_cons_zero, List.getD_cons_succ, det, forall_eq, List.setIfInBounds_toArray, List.set_cons_zero, List.set_cons_succ, List.drop, List.length]
    obtain ⟨hb1, hsz1⟩ := hC1
    obtain ⟨k4, k5, k7⟩ := HK.out w1 hb1
    go_wp2
    exact Flow.post_det ⟨hb1, hsz1⟩ (Grow.refl _) rfl rfl
  apply Flow.det_step
  · go_light
    intro w1 hC1
    simp only [Flow.fill, Flow.after, Flow.at_, List.nil_append, List.cons_append, List.getD_cons_zero, List.getD_cons_succ, det, forall_eq, List.setIfInBounds_toArray, List.set_cons_zero, List.set_cons_succ, List.drop, List.length]
    obtain ⟨hb1, hsz1⟩ := hC1
    obtain ⟨k4, k5, k7⟩ := HK.out w1 hb1
    go_wp2
    exact Flow.post_det ⟨hb1, hsz1⟩ (Grow.refl _) rfl rfl
  apply Flow.det_step
  · go_light
    intro w1 hC1
    simp only [Flow.fill, Flow.after, Flow.at_, List.nil_append, List.cons_append, List.getD_cons_zero, List.getD_cons_succ, det, forall_eq, List.setIfInBounds_toArray, List.set_cons_zero, List.set_cons_succ, List.drop, List.length]
    obtain ⟨hb1, hsz1⟩ := hC1
    obtain ⟨k4, k5, k7⟩ := HK.out w1 hb1
    go_wp2
    exact Flow.post_det ⟨hb1, hsz1⟩ (Grow.refl _) rfl rfl
  apply Flow.det_step
  · go_light
    intro w1 hC1
    simp only [Flow.fill, Flow.after, Flow.at_, List.nil_append, List.cons_append, List.getD_cons_zero, List.getD_cons_succ, det, forall_eq, List.setIfInBounds_toArray, List.set_cons_zero, List.set_cons_succ, List.drop, List.length]
    obtain ⟨hb1, hsz1⟩ := hC1
    obtain ⟨k4, k5, k7⟩ := HK.out w1 hb1
    go_wp2_with (go_at_call 99; refine (HQ.out w1 hb1).mono ?_; rintro e w4 ⟨rfl, rfl⟩)
    exact Flow.post_det ⟨hb1, hsz1⟩ (Grow.refl _) rfl rfl
  apply Flow.det_step
  · go_light
    intro w1 hC1
    simp only [Flow.fill, Flow.after, Flow.at_, List.nil_append, List.cons_append, List.getD_cons_zero, List.getD_cons_succ, det, forall_eq, List.setIfInBounds_toArray, List.set_cons_zero, List.set_cons_succ, List.drop, List.length]
    obtain ⟨hb1, hsz1⟩ := hC1
    obtain ⟨k4, k5, k7⟩ := HK.out w1 hb1
    go_wp2
    exact Flow.post_det ⟨hb1, hsz1⟩ (Grow.refl _) rfl rfl
  apply Flow.det_step
  · go_light
    intro w1 hC1
    simp only [Flow.fill, Flow.after, Flow.at_, List.nil_append, List.cons_append, List.getD_cons_zero, List.getD_cons_succ, det, forall_eq, List.setIfInBounds_toArray, List.set_cons_zero, List.set_cons_succ, List.drop, List.length]
    obtain ⟨hb1, hsz1⟩ := hC1
    obtain ⟨k4, k5, k7⟩ := HK.out w1 hb1
    go_wp2
    exact Flow.post_det ⟨hb1, hsz1⟩ (Grow.refl _) rfl rfl
  apply Flow.det_step
  · go_light
    intro w1 hC1
    simp only [Flow.fill, Flow.after, Flow.at_, List.nil_append, List.cons_append, List.getD_cons_zero, List.getD_cons_succ, det, forall_eq, List.setIfInBounds_toArray, List.set_cons_zero, List.set_cons_succ, List.drop, List.length]
    obtain ⟨hb1, hsz1⟩ := hC1
    obtain ⟨k4, k5, k7⟩ := HK.out w1 hb1
    go_wp2
    exact Flow.post_det ⟨hb1, hsz1⟩ (Grow.refl _) rfl rfl
  apply Flow.det_step
  · go_light
    intro w1 hC1
    simp only [Flow.fill, Flow.after, Flow.at_, List.nil_append, List.cons_append, List.getD_cons_zero, List.getD_cons_succ, det, forall_eq, List.setIfInBounds_toArray, List.set_cons_zero, List.set_cons_succ, List.drop, List.length]
    obtain ⟨hb1, hsz1⟩ := hC1
    obtain ⟨k4, k5, k7⟩ := HK.out w1 hb1
    go_wp2
    exact Flow.post_det ⟨hb1, hsz1⟩ (Grow.refl _) rfl rfl
  apply Flow.det_step
  · go_light
    intro w1 hC1
    simp only [Flow.fill, Flow.after, Flow.at_, List.nil_append, List.cons_append, List.getD_cons_zero, List.getD_cons_succ, det, forall_eq, List.setIfInBounds_toArray, List.set_cons_zero, List.set_cons_succ, List.drop, List.length]
    obtain ⟨hb1, hsz1⟩ := hC1
    obtain ⟨k4, k5, k7⟩ := HK.out w1 hb1
    go_wp2
    exact Flow.post_det ⟨hb1, hsz1⟩ (Grow.refl _) rfl rfl
  apply Flow.det_step
  · go_light
    intro w1 hC1
    simp only [Flow.fill, Flow.after, Flow.at_, List.nil_append, List.cons_append, List.getD_cons_zero, List.getD_cons_succ, det, forall_eq, List.setIfInBounds_toArray, List.set_cons_zero, List.set_cons_succ, List.drop, List.length]
    obtain ⟨hb1, hsz1⟩ := hC1
    obtain ⟨k4, k5, k7⟩ := HK.out w1 hb1
    go_wp2
    exact Flow.post_det ⟨hb1, hsz1⟩ (Grow.refl _) rfl rfl
  apply Flow.det_step
  · go_light
    intro w1 hC1
    simp only [Flow.fill, Flow.after, Flow.at_, List.nil_append, List.cons_append, List.getD_cons_zero, List.getD_cons_succ, det, forall_eq, List.setIfInBounds_toArray, List.set_cons_zero, List.set_cons_succ, List.drop, List.length]
    obtain ⟨hb1, hsz1⟩ := hC1
    obtain ⟨k4, k5, k7⟩ := HK.out w1 hb1
    go_wp2
    exact Flow.post_det ⟨hb1, hsz1⟩ (Grow.refl _) rfl rfl
  apply Flow.det_step
  · go_light
    intro w1 hC1
    simp only [Flow.fill, Flow.after, Flow.at_, List.nil_append, List.cons_append, List.getD_cons_zero, List.getD_cons_succ, det, forall_eq, List.setIfInBounds_toArray, List.set_cons_zero, List.set_cons_succ, List.drop, List.length]
    obtain ⟨hb1, hsz1⟩ := hC1
    obtain ⟨k4, k5, k7⟩ := HK.out w1 hb1
    go_wp2
    exact Flow.post_det ⟨hb1, hsz1⟩ (Grow.refl _) rfl rfl
  apply Flow.det_step
  · go_light
    intro w1 hC1
    simp only [Flow.fill, Flow.after, Flow.at_, List.nil_append, List.cons_append, List.getD_cons_zero, List.getD_cons_succ, det, forall_eq, List.setIfInBounds_toArray, List.set_cons_zero, List.set_cons_succ, List.drop, List.length]
    obtain ⟨hb1, hsz1⟩ := hC1
    obtain ⟨k4, k5, k7⟩ := HK.out w1 hb1
    go_wp2
    exact Flow.post_det ⟨hb1, hsz1⟩ (Grow.refl _) rfl rfl
  apply Flow.det_step
  · go_light
    intro w1 hC1
    simp only [Flow.fill, Flow.after, Flow.at_, List.nil_append, List.cons_append, List.getD_cons_zero, List.getD_cons_succ, det, forall_eq, List.setIfInBounds_toArray, List.set_cons_zero, List.set_cons_succ, List.drop, List.length]
    obtain ⟨hb1, hsz1⟩ := hC1
    obtain ⟨k4, k5, k7⟩ := HK.out w1 hb1
    go_wp2
    exact Flow.post_det ⟨hb1, hsz1⟩ (Grow.refl _) rfl rfl
  apply Flow.det_step
  · go_light
    intro w1 hC1
    simp only [Flow.fill, Flow.after, Flow.at_, List.nil_append, List.cons_append, List.getD_cons_zero, List.getD_cons_succ, det, forall_eq, List.setIfInBounds_toArray, List.set_cons_zero, List.set_cons_succ, List.drop, List.length]
    obtain ⟨hb1, hsz1⟩ := hC1
    obtain ⟨k4, k5, k7⟩ := HK.out w1 hb1
    go_wp2
    exact Flow.post_det ⟨hb1, hsz1⟩ (Grow.refl _) rfl rfl
  apply Flow.det_step
  · go_light
    intro w1 hC1
    simp only [Flow.fill, Flow.after, Flow.at_, List.nil_append, List.cons_append, List.getD_cons_zero, List.getD_cons_succ, det, forall_eq, List.setIfInBounds_toArray, List.set_cons_zero, List.set_cons_succ, List.drop, List.length]
    obtain ⟨hb1, hsz1⟩ := hC1
    obtain ⟨k4, k5, k7⟩ := HK.out w1 hb1
    go_wp2
    exact Flow.post_det ⟨hb1, hsz1⟩ (Grow.refl _) rfl rfl
  apply Flow.det_step
  · go_light
    intro w1 hC1
    simp only [Flow.fill, Flow.after, Flow.at_, List.nil_append, List.cons_append, List.getD_cons_zero, List.getD_cons_succ, det, forall_eq, List.setIfInBounds_toArray, List.set_cons_zero, List.set_cons_succ, List.drop, List.length]
    obtain ⟨hb1, hsz1⟩ := hC1
    obtain ⟨k4, k5, k7⟩ := HK.out w1 hb1
    go_wp2
    exact Flow.post_det ⟨hb1, hsz1⟩ (Grow.refl _) rfl rfl
  refine Flow.st_step (⟨fun v W => ∃ g7, v = .pointer (some ⟨g7, 0, none⟩) ∧ w.heap.size + 1 ≤ g7 ∧ g7 < W.heap.size ∧ Blk W g7 zsg 25, fun v W W' hh hg => by obtain ⟨g7, h1, h2, h3, h4⟩ := hh; exact ⟨g7, h1, h2, Nat.lt_of_lt_of_le h3 hg.size, h4.fr (Fr.of_grow hg) (fun h => h)⟩⟩) ?_ ?_
  · go_light
    intro w1 hC1
    simp only [Flow.fill, Flow.after, Flow.at_, List.nil_append, List.cons_append, List.getD_cons_zero, List.getD_cons_succ, det, forall_eq, List.setIfInBounds_toArray, List.set_cons_zero, List.set_cons_succ, List.drop, List.length]
    obtain ⟨hb1, hsz1⟩ := hC1
    obtain ⟨k4, k5, k7⟩ := HK.out w1 hb1
    go_wp2
    exact Flow.post_st ⟨hb1.alloc hsz1 _, by simp; omega⟩ (Grow.alloc _ _) rfl rfl ⟨_, rfl, hsz1, by simp, heap_alloc_new _ _⟩
  intro w1 hC1
  simp only [Flow.fill, Flow.after, Flow.at_, List.nil_append, List.cons_append, List.getD_cons_zero, List.getD_cons_succ, det, forall_eq, List.setIfInBounds_toArray, List.set_cons_zero, List.set_cons_succ, List.drop, List.length]
  rintro _ ⟨g7, rfl, hg7, hg7l, hcs7⟩
  obtain ⟨hb1, hsz1⟩ := hC1
  have hP0 : SPos w B q 66 vo vi s.said s.got w1 (rcells s) g7 zsg :=
    ⟨Ob2.grow HOB.out (HTO.out w1 hb1), (Fr.of_grow (HTO.out w1 hb1)).mono (fun _ _ h => h.elim), Blk.fr (show Blk (w.alloc (.cells zsg 25)) w.heap.size zsg 25 from heap_alloc_new w _) (S := fun k => w.heap.size + 1 ≤ k) (Fr.of_below hb1) (by omega), hcs7, by omega, HFP.out⟩
  have HP0 := Lib.hid hP0
  have hP5 := ((((hP0.setS 0 (.int .u32 (s.seqI s.nxt))).setS 1 (.int .u32 0)).setS 2 (.int .i64 fl)).setS 3 (.int .i64 (64 - ((s.got.length : Int) - s.rd)))).setS 4 (.slice none 0 0)
  have HP5 : Hid (SPos w B q 66 vo vi s.said s.got (((((w1.setCell ⟨g7, 0, none⟩ (.int .u32 (s.seqI s.nxt))).setCell ⟨g7, 1, none⟩ (.int .u32 0)).setCell ⟨g7, 2, none⟩ (.int .i64 fl)).setCell ⟨g7, 3, none⟩ (.int .i64 (64 - ((s.got.length : Int) - s.rd)))).setCell ⟨g7, 4, none⟩ (.slice none 0 0)) (rcells s) g7 (sgb (s.seqI s.nxt) 0 fl (64 - ((s.got.length : Int) - s.rd)) none 0 0)) := Lib.hid (by simpa [zsg, sgb] using hP5)
  have hk := hP0.k.cell
  have hfk := hP0.k.free
  have hlk := hP0.k.lt
  dsimp only [zsg] at hk
  clear hP0 hP5 hcs7
  go_upto_region 2 with fail
  obtain ⟨W1, hWW1⟩ : ∃ W, W = ((((w1.setCell ⟨g7, 0, none⟩ (.int .u32 (s.seqI s.nxt))).setCell ⟨g7, 1, none⟩ (.int .u32 0)).setCell ⟨g7, 2, none⟩ (.int .i64 fl)).setCell ⟨g7, 3, none⟩ (.int .i64 (64 - ((s.got.length : Int) - s.rd)))).setCell ⟨g7, 4, none⟩ (.slice none 0 0) := ⟨_, rfl⟩
  rw [← hWW1]
  have HPW1 : Hid (SPos w B q 66 vo vi s.said s.got W1 (rcells s) g7 (sgb (s.seqI s.nxt) 0 fl (64 - ((s.got.length : Int) - s.rd)) none 0 0)) := Lib.hid (by rw [hWW1]; exact HP5.out)
  clear hWW1 hk hfk hlk
  have hc := HPW1.out.o.blk.cell
  have hk := HPW1.out.k.cell
  have hlt := HPW1.out.o.blk.lt
  have hlk := HPW1.out.k.lt
  have hfz := HPW1.out.o.blk.free
  have hfk := HPW1.out.k.free
  dsimp only [rcells, sgb] at hc hk
  have hgg : ¬ g7 = q := by have := HP0.out.l; omega
  clear HP5
  have hkn1 : (s.nxt : Int) - 1 = kn := by have := HKN.out; omega
  have HW1S : Hid (w.heap.size ≤ W1.heap.size) := Lib.hid HPW1.out.f.size
  have hrb0 := HSAID.out W1 HPW1.out.o
  obtain ⟨b0, o0, rfl, hb00, -⟩ := hrb0.at_ (k := 0) (by omega)
  have HSD : Hid (∀ w', Below W1.heap.size W1 w' → RB w' w'.heap.size (some ⟨b0, o0 + kn, none⟩) many ((s.said.drop kn).take many)) := Lib.hid (fun w' hb => RB.part (HSAID.out w' (Ob2.grow HPW1.out.o hb)) hle)
  have HK3 : Hid (∀ w', Below W1.heap.size W1 w' → w'.cell? ⟨q, 3, none⟩ = some (.slice (some ⟨b0, o0, none⟩) s.said.length c0) ∧ w'.cell? ⟨q, 7, none⟩ = some (.int .i64 s.nxt)) := Lib.hid (fun w' hb => by
    have hc := (Ob2.grow HPW1.out.o hb).blk.cell
    exact ⟨(hc 3).trans (congrArg some HVO.out), hc 7⟩)
  have hcl : ¬ c0 = kn := by omega
  have hlt9 := hlt
  clear hrb0 hc hk
  go_wp2_with fail
  refine wp_region_walk (fun w' => Below W1.heap.size W1 w') [[], [(29, 0)], [(30, 1)], [(31, 2)], [], [(33, 4)], [(34, 5)], [(35, 6)], [(36, 7)], [], [(38, 9)], [(39, 10)], [(40, 11)], [(41, 12)], [], [(42, 13), (43, 14)], [(32, 3), (37, 8), (44, 15)], [(45, 16)], []]
    [(29, 0), (30, 1), (31, 2), (32, 3), (33, 4), (34, 5), (35, 6), (36, 7), (37, 8), (38, 9), (39, 10), (40, 11), (41, 12), (42, 13), (43, 14), (44, 15), (45, 16), (46, 17), (47, 18)] (by kernel_rfl) (by kernel_rfl) (by kernel_rfl) (Below.refl _ _).drew ?_
  apply Flow.det_step
  · go_light
    intro w1 hC1
    simp only [Flow.fill, Flow.after, Flow.at_, List.nil_append, List.cons_append, List.getD_cons_zero, List.getD_cons_succ, det, forall_eq, List.setIfInBounds_toArray, List.set_cons_zero, List.set_cons_succ, List.drop, List.length]
    have hb1 := hC1
    obtain ⟨k3, k7⟩ := HK3.out w1 hb1
    go_wp2
    exact Flow.post_det hb1 (Grow.refl _) rfl rfl
  apply Flow.det_step
  · go_light
    intro w1 hC1
    simp only [Flow.fill, Flow.after, Flow.at_, List.nil_append, List.cons_append, List.getD_cons_zero, List.getD_cons_succ, det, forall_eq, List.setIfInBounds_toArray, List.set_cons_zero, List.set_cons_succ, List.drop, List.length]
    have hb1 := hC1
    obtain ⟨k3, k7⟩ := HK3.out w1 hb1
    go_wp2
    exact Flow.post_det hb1 (Grow.refl _) rfl rfl
  apply Flow.det_step
  · go_light
    intro w1 hC1
    simp only [Flow.fill, Flow.after, Flow.at_, List.nil_append, List.cons_append, List.getD_cons_zero, List.getD_cons_succ, det, forall_eq, List.setIfInBounds_toArray, List.set_cons_zero, List.set_cons_succ, List.drop, List.length]
    have hb1 := hC1
    obtain ⟨k3, k7⟩ := HK3.out w1 hb1
    go_wp2
    exact Flow.post_det hb1 (Grow.refl _) rfl rfl
  apply Flow.det_step
  · go_light
    intro w1 hC1
    simp only [Flow.fill, Flow.after, Flow.at_, List.nil_append, List.cons_append, List.getD_cons_zero, List.getD_cons_succ, det, forall_eq, List.setIfInBounds_toArray, List.set_cons_zero, List.set_cons_succ, List.drop, List.length]
    have hb1 := hC1
    obtain ⟨k3, k7⟩ := HK3.out w1 hb1
    go_wp2
    exact Flow.post_det hb1 (Grow.refl _) rfl rfl
  apply Flow.det_step
  · go_light
    intro w1 hC1
    simp only [Flow.fill, Flow.after, Flow.at_, List.nil_append, List.cons_append, List.getD_cons_zero, List.getD_cons_succ, det, forall_eq, List.setIfInBounds_toArray, List.set_cons_zero, List.set_cons_succ, List.drop, List.length]
    have hb1 := hC1
    obtain ⟨k3, k7⟩ := HK3.out w1 hb1
    go_wp2
    exact Flow.post_det hb1 (Grow.refl _) rfl rfl
  apply Flow.det_step
  · go_light
    intro w1 hC1
    simp only [Flow.fill, Flow.after, Flow.at_, List.nil_append, List.cons_append, List.getD_cons_zero, List.getD_cons_succ, det, forall_eq, List.setIfInBounds_toArray, List.set_cons_zero, List.set_cons_succ, List.drop, List.length]
    have hb1 := hC1
    obtain ⟨k3, k7⟩ := HK3.out w1 hb1
    go_wp2
    exact Flow.post_det hb1 (Grow.refl _) rfl rfl
  apply Flow.det_step
  · go_light
    intro w1 hC1
    simp only [Flow.fill, Flow.after, Flow.at_, List.nil_append, List.cons_append, List.getD_cons_zero, List.getD_cons_succ, det, forall_eq, List.setIfInBounds_toArray, List.set_cons_zero, List.set_cons_succ, List.drop, List.length]
    have hb1 := hC1
    obtain ⟨k3, k7⟩ := HK3.out w1 hb1
    go_wp2
    exact Flow.post_det hb1 (Grow.refl _) rfl rfl
  apply Flow.det_step
  · go_light
    intro w1 hC1
    simp only [Flow.fill, Flow.after, Flow.at_, List.nil_append, List.cons_append, List.getD_cons_zero, List.getD_cons_succ, det, forall_eq, List.setIfInBounds_toArray, List.set_cons_zero, List.set_cons_succ, List.drop, List.length]
    have hb1 := hC1
    obtain ⟨k3, k7⟩ := HK3.out w1 hb1
    go_wp2
    exact Flow.post_det hb1 (Grow.refl _) rfl rfl
  apply Flow.det_step
  · go_light
    intro w1 hC1
    simp only [Flow.fill, Flow.after, Flow.at_, List.nil_append, List.cons_append, List.getD_cons_zero, List.getD_cons_succ, det, forall_eq, List.setIfInBounds_toArray, List.set_cons_zero, List.set_cons_succ, List.drop, List.length]
    have hb1 := hC1
    obtain ⟨k3, k7⟩ := HK3.out w1 hb1
    go_wp2
    exact Flow.post_det hb1 (Grow.refl _) rfl rfl
  apply Flow.det_step
  · go_light
    intro w1 hC1
    simp only [Flow.fill, Flow.after, Flow.at_, List.nil_append, List.cons_append, List.getD_cons_zero, List.getD_cons_succ, det, forall_eq, List.setIfInBounds_toArray, List.set_cons_zero, List.set_cons_succ, List.drop, List.length]
    have hb1 := hC1
    obtain ⟨k3, k7⟩ := HK3.out w1 hb1
    go_wp2
    exact Flow.post_det hb1 (Grow.refl _) rfl rfl
  apply Flow.det_step
  · go_light
    intro w1 hC1
    simp only [Flow.fill, Flow.after, Flow.at_, List.nil_append, List.cons_append, List.getD_cons_zero, List.getD_cons_succ, det, forall_eq, List.setIfInBounds_toArray, List.set_cons_zero, List.set_cons_succ, List.drop, List.length]
    have hb1 := hC1
    obtain ⟨k3, k7⟩ := HK3.out w1 hb1
    go_wp2
    exact Flow.post_det hb1 (Grow.refl _) rfl rfl
  apply Flow.det_step
  · go_light
    intro w1 hC1
    simp only [Flow.fill, Flow.after, Flow.at_, List.nil_append, List.cons_append, List.getD_cons_zero, List.getD_cons_succ, det, forall_eq, List.setIfInBounds_toArray, List.set_cons_zero, List.set_cons_succ, List.drop, List.length]
    have hb1 := hC1
    obtain ⟨k3, k7⟩ := HK3.out w1 hb1
    go_wp2
    exact Flow.post_det hb1 (Grow.refl _) rfl rfl
  apply Flow.det_step
  · go_light
    intro w1 hC1
    simp only [Flow.fill, Flow.after, Flow.at_, List.nil_append, List.cons_append, List.getD_cons_zero, List.getD_cons_succ, det, forall_eq, List.setIfInBounds_toArray, List.set_cons_zero, List.set_cons_succ, List.drop, List.length]
    have hb1 := hC1
    obtain ⟨k3, k7⟩ := HK3.out w1 hb1
    go_wp2
    exact Flow.post_det hb1 (Grow.refl _) rfl rfl
  apply Flow.det_step
  · go_light
    intro w1 hC1
    simp only [Flow.fill, Flow.after, Flow.at_, List.nil_append, List.cons_append, List.getD_cons_zero, List.getD_cons_succ, det, forall_eq, List.setIfInBounds_toArray, List.set_cons_zero, List.set_cons_succ, List.drop, List.length]
    have hb1 := hC1
    obtain ⟨k3, k7⟩ := HK3.out w1 hb1
    go_wp2
    exact Flow.post_det hb1 (Grow.refl _) rfl rfl
  apply Flow.det_step
  · go_light
    intro w1 hC1
    simp only [Flow.fill, Flow.after, Flow.at_, List.nil_append, List.cons_append, List.getD_cons_zero, List.getD_cons_succ, det, forall_eq, List.setIfInBounds_toArray, List.set_cons_zero, List.set_cons_succ, List.drop, List.length]
    have hb1 := hC1
    obtain ⟨k3, k7⟩ := HK3.out w1 hb1
    go_wp2
    exact Flow.post_det hb1 (Grow.refl _) rfl rfl
  apply Flow.det_step
  · go_light
    intro w1 hC1
    simp only [Flow.fill, Flow.after, Flow.at_, List.nil_append, List.cons_append, List.getD_cons_zero, List.getD_cons_succ, det, forall_eq, List.setIfInBounds_toArray, List.set_cons_zero, List.set_cons_succ, List.drop, List.length]
    have hb1 := hC1
    obtain ⟨k3, k7⟩ := HK3.out w1 hb1
    go_wp2
    exact Flow.post_det hb1 (Grow.refl _) rfl rfl
  refine Flow.st_step (rdSt many ((s.said.drop kn).take many)) ?_ ?_
  · go_light
    intro w1 hC1
    simp only [Flow.fill, Flow.after, Flow.at_, List.nil_append, List.cons_append, List.getD_cons_zero, List.getD_cons_succ, det, forall_eq, List.setIfInBounds_toArray, List.set_cons_zero, List.set_cons_succ, List.drop, List.length]
    have hb1 := hC1
    obtain ⟨k3, k7⟩ := HK3.out w1 hb1
    have hr16 := HSD.out w1 hb1
    go_wp2
    exact Flow.post_st hb1 (Grow.refl _) rfl rfl ⟨some ⟨b0, o0 + kn, none⟩, c0 - kn, by rw [Nat.add_sub_cancel_left], hr16⟩
  refine Flow.st_step (rowSt w.heap.size many ((s.said.drop kn).take many)) ?_ ?_
  · go_light
    intro w1 hC1
    simp only [Flow.fill, Flow.after, Flow.at_, List.nil_append, List.cons_append, List.getD_cons_zero, List.getD_cons_succ, det, forall_eq, List.setIfInBounds_toArray, List.set_cons_zero, List.set_cons_succ, List.drop, List.length]
    rintro _ ⟨A45, c45, rfl, hr45⟩
    have hb1 := hC1
    obtain ⟨k3, k7⟩ := HK3.out w1 hb1
    go_wp2_with (at_builtin; refine wpList_append_row _ rfl _ (.tmp 45) 23 rfl w.heap.size 5 i0 (.int .u8 0) 1 1 Try.underlying23 ii hz0 hz1 hz2 rfl (by decide) (.slice none 0 0) 0 [] rfl (Row.nil _ _ _ _) w1.heap.size A45 many c45 (((s.said.drop kn).take many).map (Value.int .u8)) rfl hr45.1 (u8_oneCell _) ?c3 ?c4 ?c5 ?_; rotate_left; skip)
    case c3 => unfold maxLen; omega
    case c4 => omega
    case c5 => exact Nat.le_trans HW1S.out hb1.size
    intro A9 c9 w9 hr9 hg9 ho9
    go_wp2
    exact Flow.post_st (hb1.trans ((Grow.of_none hg9).mono hb1.size)) (Grow.of_none hg9) rfl rfl (show Row w9 w.heap.size 5 1 _ many (((s.said.drop kn).take many).map (Value.int .u8)) from by simpa using hr9)
  apply Flow.det_step
  · go_light
    intro w1 hC1
    simp only [Flow.fill, Flow.after, Flow.at_, List.nil_append, List.cons_append, List.getD_cons_zero, List.getD_cons_succ, det, forall_eq, List.setIfInBounds_toArray, List.set_cons_zero, List.set_cons_succ, List.drop, List.length]
    have hb1 := hC1
    obtain ⟨k3, k7⟩ := HK3.out w1 hb1
    go_wp2
    exact Flow.post_det hb1 (Grow.refl _) rfl rfl
  intro w1 hC1
  simp only [Flow.fill, Flow.after, Flow.at_, List.nil_append, List.cons_append, List.getD_cons_zero, List.getD_cons_succ, det, forall_eq, List.setIfInBounds_toArray, List.set_cons_zero, List.set_cons_succ, List.drop, List.length]
  rintro _ - v46 hv46
  have hb1 := hC1
  have hv46' : Row w1 w.heap.size 5 1 v46 many (((s.said.drop kn).take many).map (Value.int .u8)) := hv46
  obtain ⟨A9, c9, rfl, -, -⟩ := hv46'.shape
  have HP3 := Lib.hid (HPW1.out.grow hb1)
  have HR3 := Lib.hid hv46'
  have hk := HP3.out.k.cell
  have hlk9 := HP3.out.k.lt
  have hfk9 := HP3.out.k.free
  dsimp only [sgb] at hk
  have HX : Hid (SPos w B q 66 vo vi s.said s.got (w1.setCell ⟨g7, 4, none⟩ (.slice A9 many c9)) (rcells s) g7 (sgb (s.seqI s.nxt) 0 fl (64 - ((s.got.length : Int) - s.rd)) A9 many c9)) := Lib.hid (by
    have hX := HP3.out.setS 4 (.slice A9 many c9)
    simpa [sgb] using hX)
  have HXR := Lib.hid (HP3.out.rowS HR3.out 4 (.slice A9 many c9))
  obtain ⟨ds, hds⟩ : ∃ ds, (s.said.drop kn).take many = ds := ⟨_, rfl⟩
  rw [hds] at HXR HSG
  have HDL : Hid (ds.length = many) := Lib.hid (by rw [← hds]; simp; omega)
  clear hds hv46 hv46' hb1 hkn1 hcl HK3 HSD hlt hlk hfz hfk HR3
  go_upto_region 4 with fail
  obtain ⟨W2, hWW2⟩ : ∃ W, W = w1.setCell ⟨g7, 4, none⟩ (.slice A9 many c9) := ⟨_, rfl⟩
  rw [← hWW2]
  have HPW2 : Hid (SPos w B q 66 vo vi s.said s.got W2 (rcells s) g7 (sgb (s.seqI s.nxt) 0 fl (64 - ((s.got.length : Int) - s.rd)) A9 many c9)) := Lib.hid (by rw [hWW2]; exact HX.out)
  have HRW2 : Hid (Row W2 w.heap.size 5 1 (.slice A9 many c9) many (ds.map (Value.int .u8))) := Lib.hid (by rw [hWW2]; exact HXR.out)
  clear hWW2 hk hlk9 hfk9 hlt9
  have hc := HPW2.out.o.blk.cell
  have hk := HPW2.out.k.cell
  have hlt := HPW2.out.o.blk.lt
  have hlk := HPW2.out.k.lt
  have hfz := HPW2.out.o.blk.free
  have hfk := HPW2.out.k.free
  dsimp only [rcells, sgb] at hc hk
  clear HX HXR HP3
  have HPN := Lib.hid hpn
  clear hpn
  have d1 : decide (2 < s.st) = true := by simpa using HST.out
  have HX : Hid (SPos w B q 66 vo vi s.said s.got (W2.setCell ⟨g7, 2, none⟩ (.int .i64 (fl + 2))) (rcells s) g7 (sgb (s.seqI s.nxt) 0 (fl + 2) (64 - ((s.got.length : Int) - s.rd)) A9 many c9)) := Lib.hid (by
    have hX := HPW2.out.setS 2 (.int .i64 (fl + 2))
    simpa [sgb] using hX)
  have HXR := Lib.hid (HPW2.out.rowS HRW2.out 2 (.int .i64 (fl + 2)))
  go_wp2_with fail
  refine (rawaited HX.out.o).mono ?_
  rintro e w6 ⟨rfl, hb6⟩
  have HP6 := Lib.hid (HX.out.grow hb6)
  have HR6 := Lib.hid (HXR.out.grow hb6)
  have hk6 := HP6.out.k.cell
  have hlk6 := HP6.out.k.lt
  have hfk6 := HP6.out.k.free
  have HY : Hid (SPos w B q 66 vo vi s.said s.got (w6.setCell ⟨g7, 1, none⟩ (.int .u32 s.awI)) (rcells s) g7 (sgb (s.seqI s.nxt) s.awI (fl + 2) (64 - ((s.got.length : Int) - s.rd)) A9 many c9)) := Lib.hid (by
    have hX := HP6.out.setS 1 (.int .u32 s.awI)
    simpa [sgb] using hX)
  have HYR := Lib.hid (HP6.out.rowS HR6.out 1 (.int .u32 s.awI))
  clear hb6 HX HXR
  go_upto_region 7 with fail
  obtain ⟨W3, hWW3⟩ : ∃ W, W = w6.setCell ⟨g7, 1, none⟩ (.int .u32 s.awI) := ⟨_, rfl⟩
  rw [← hWW3]
  have HPW3 : Hid (SPos w B q 66 vo vi s.said s.got W3 (rcells s) g7 (sgb (s.seqI s.nxt) s.awI (fl + 2) (64 - ((s.got.length : Int) - s.rd)) A9 many c9)) := Lib.hid (by rw [hWW3]; exact HY.out)
  have HRW3 : Hid (Row W3 w.heap.size 5 1 (.slice A9 many c9) many (ds.map (Value.int .u8))) := Lib.hid (by rw [hWW3]; exact HYR.out)
  clear hWW3 hc hk hlt hlk hfz hfk hk6 hlk6 hfk6
  have hc := HPW3.out.o.blk.cell
  have hk := HPW3.out.k.cell
  have hlt := HPW3.out.o.blk.lt
  have hlk := HPW3.out.k.lt
  have hfz := HPW3.out.o.blk.free
  have hfk := HPW3.out.k.free
  dsimp only [rcells, sgb] at hc hk
  clear HY HYR HP6 HR6
  have hwr : IntKind.i64.wrap ((s.nxt : Int) + pn) = (s.nxt : Int) + pn := IntWalk.i64_in _ (by omega)
  have HWR := Lib.hid hwr
  clear hwr
  have HK5 := Lib.hid (fun w5 (hb5 : Below W3.drew.heap.size W3.drew w5) => (show w5.cell? ⟨q, 7, none⟩ = some (.int .i64 s.nxt) ∧ (∀ j, w5.frozen? ⟨q, j, none⟩ = false) ∧ q < w5.heap.size from
    have h5 := (HPW3.out.grow (((Below.refl W3.heap.size W3).drew).trans hb5)).o
    ⟨h5.blk.cell 7, h5.blk.free, h5.blk.lt⟩))
  have HS5 := Lib.hid (fun w5 (hb5 : Below W3.drew.heap.size W3.drew w5) => (show SPos w B q 66 vo vi s.said s.got (w5.setCell ⟨q, 7, none⟩ (.int .i64 (IntKind.i64.wrap ((s.nxt : Int) + pn)))) (rcells { s with nxt := s.nxt + pn }) g7 (sgb (s.seqI s.nxt) s.awI (fl + 2) (64 - ((s.got.length : Int) - s.rd)) A9 many c9) ∧ Row (w5.setCell ⟨q, 7, none⟩ (.int .i64 (IntKind.i64.wrap ((s.nxt : Int) + pn)))) w.heap.size 5 1 (.slice A9 many c9) many (ds.map (Value.int .u8)) from
    have hb : Below W3.heap.size W3 w5 := ((Below.refl W3.heap.size W3).drew).trans hb5
    have h5 := HPW3.out.grow hb
    ⟨h5.setE (cs' := rcells { s with nxt := s.nxt + pn }) 7 (.int .i64 (IntKind.i64.wrap ((s.nxt : Int) + pn))) (by rw [HWR.out]; simp [rcells]), h5.rowE (HRW3.out.grow hb) 7 _⟩))
  have hspe : spanI many (fl + 2) = pn := by rw [spanI_small hm32]; unfold spanF; have := HPN.out; omega
  have HSPX := Lib.hid (fun W => HSP.out (fl + 2) A9 many c9 hm32 s.awI (64 - ((s.got.length : Int) - s.rd)) W)
  rw [hspe] at HSPX
  clear hspe
  go_region_with (go_at_call 13; refine (HSPX.out _).mono ?_; rintro e w5 ⟨rfl, hb5⟩; obtain ⟨q1, q2, q3⟩ := HK5.out w5 hb5)
  all_goals
    have HS6 := Lib.hid (HS5.out w5 hb5)
    clear hb5 q1 q2 q3
    first
    | (obtain ⟨W6, hW6⟩ : ∃ W, W = w5.setCell ⟨q, 7, none⟩ (.int .i64 (IntKind.i64.wrap ((s.nxt : Int) + pn))) := ⟨_, rfl⟩
       have HP6 : Hid (SPos w B q 66 vo vi s.said s.got W6 (rcells { s with nxt := s.nxt + pn }) g7 (sgb (s.seqI s.nxt) s.awI (fl + 2) (64 - ((s.got.length : Int) - s.rd)) A9 many c9) ∧ Row W6 w.heap.size 5 1 (.slice A9 many c9) many (ds.map (Value.int .u8))) := Lib.hid (by rw [hW6]; exact HS6.out)
       rw [← hW6]
       clear hW6 HS6)
    | (obtain ⟨W6, hW6⟩ : ∃ W, W = (w5.setCell ⟨q, 7, none⟩ (.int .i64 (IntKind.i64.wrap ((s.nxt : Int) + pn)))).drew := ⟨_, rfl⟩
       have HP6 : Hid (SPos w B q 66 vo vi s.said s.got W6 (rcells { s with nxt := s.nxt + pn }) g7 (sgb (s.seqI s.nxt) s.awI (fl + 2) (64 - ((s.got.length : Int) - s.rd)) A9 many c9) ∧ Row W6 w.heap.size 5 1 (.slice A9 many c9) many (ds.map (Value.int .u8))) := Lib.hid (by rw [hW6]; exact ⟨HS6.out.1.drew, HS6.out.2.drew⟩)
       rw [← hW6]
       clear hW6 HS6)
    clear hc hk hlt hlk hfz hfk HK5 HS5
    have hcn : ((s.nxt + pn : Nat) : Int) = (s.nxt : Int) + pn := by omega
    have hc := HP6.out.1.o.blk.cell
    have hlt := HP6.out.1.o.blk.lt
    dsimp only [rcells] at hc
    rw [hcn] at hc
    by_cases hbt : s.top < s.nxt + pn
    · have d9 : decide ((s.top : Int) < (s.nxt : Int) + pn) = true := by simp; omega
      have HMX : Hid (max s.top (s.nxt + pn) = s.nxt + pn) := Lib.hid (by omega)
      clear hbt hcn
      go_wp2_with fail
      go_quiet (fail)
      obtain ⟨w7, hw7⟩ : ∃ w7, w7 = W6.drewN nq := ⟨_, rfl⟩
      rw [← hw7]
      have HP7 : Hid (SPos w B q 66 vo vi s.said s.got w7 (rcells { s with nxt := s.nxt + pn }) g7 (sgb (s.seqI s.nxt) s.awI (fl + 2) (64 - ((s.got.length : Int) - s.rd)) A9 many c9)) := Lib.hid (by rw [hw7]; exact HP6.out.1.drewN _)
      have HR7 : Hid (Row w7 w.heap.size 5 1 (.slice A9 many c9) many (ds.map (Value.int .u8))) := Lib.hid (by rw [hw7]; exact HP6.out.2)
      clear hw7 hc hlt
      have hcn : ((s.nxt + pn : Nat) : Int) = (s.nxt : Int) + pn := by omega
      have hc := HP7.out.o.blk.cell
      have hk := HP7.out.k.cell
      have hz := HP7.out.z.cell
      have hlt := HP7.out.o.blk.lt
      have hlk := HP7.out.k.lt
      have hlz := HP7.out.z.lt
      have hfz := HP7.out.o.blk.free
      have hfk := HP7.out.k.free
      have hfw := HP7.out.z.free
      dsimp only [rcells, sgb, zsg] at hc hk hz
      rw [hcn] at hc
      have hn1 : ¬ g7 = w.heap.size := by have := HP7.out.l; omega
      have hn2 : ¬ q = w.heap.size := by omega
      clear hcn
      have hX8 := (HP7.out.setE (cs' := rcells { s with nxt := s.nxt + pn, top := s.nxt + pn }) 8 (.int .i64 ((s.nxt : Int) + pn)) (by simp [rcells])).setE (cs' := rcells { s with nxt := s.nxt + pn, top := s.nxt + pn, due := false }) 12 (.bool false) (by simp [rcells])
      have hR8 : Row ((w7.setCell ⟨q, 8, none⟩ (.int .i64 ((s.nxt : Int) + pn))).setCell ⟨q, 12, none⟩ (.bool false)) w.heap.size 5 1 (.slice A9 many c9) many (ds.map (Value.int .u8)) := (HP7.out.setE (cs' := rcells { s with nxt := s.nxt + pn, top := s.nxt + pn }) 8 (.int .i64 ((s.nxt : Int) + pn)) (by simp [rcells])).rowE (HP7.out.rowE HR7.out 8 _) 12 _
      have HD : Hid (SayP w B q 66 (rcells S') vo vi s.said s.got SG (.returned (sgc SG.seq SG.ack SG.flags SG.window A9 many c9)) _) := Lib.hid (SPos.done (sg := SG) (by rw [HSG.out, HNX.out, HMX.out]; exact hX8) (by rw [HSG.out]; exact HDL.out.symm) (by rw [HSG.out]; exact hR8))
      rw [HSG.out] at HD
      dsimp only at HD
      clear hX8 hR8
      go_wp2
      exact bodyPost_ret (v := sgc (s.seqI s.nxt) s.awI (fl + 2) (64 - ((s.got.length : Int) - s.rd)) A9 many c9) (by simp [results, Try.results96, go_sem, sgc, hz, hlz, hn1, hn2]) rfl (by rw [HSG.out]; exact HD.out)
    · have d9 : decide ((s.top : Int) < (s.nxt : Int) + pn) = false := by simp; omega
      have HMX : Hid (max s.top (s.nxt + pn) = s.top) := Lib.hid (by omega)
      clear hbt hcn
      go_wp2_with fail
      go_quiet (fail)
      obtain ⟨w7, hw7⟩ : ∃ w7, w7 = W6.drewN nq := ⟨_, rfl⟩
      rw [← hw7]
      have HP7 : Hid (SPos w B q 66 vo vi s.said s.got w7 (rcells { s with nxt := s.nxt + pn }) g7 (sgb (s.seqI s.nxt) s.awI (fl + 2) (64 - ((s.got.length : Int) - s.rd)) A9 many c9)) := Lib.hid (by rw [hw7]; exact HP6.out.1.drewN _)
      have HR7 : Hid (Row w7 w.heap.size 5 1 (.slice A9 many c9) many (ds.map (Value.int .u8))) := Lib.hid (by rw [hw7]; exact HP6.out.2)
      clear hw7 hc hlt
      have hcn : ((s.nxt + pn : Nat) : Int) = (s.nxt : Int) + pn := by omega
      have hc := HP7.out.o.blk.cell
      have hk := HP7.out.k.cell
      have hz := HP7.out.z.cell
      have hlt := HP7.out.o.blk.lt
      have hlk := HP7.out.k.lt
      have hlz := HP7.out.z.lt
      have hfz := HP7.out.o.blk.free
      have hfk := HP7.out.k.free
      have hfw := HP7.out.z.free
      dsimp only [rcells, sgb, zsg] at hc hk hz
      rw [hcn] at hc
      have hn1 : ¬ g7 = w.heap.size := by have := HP7.out.l; omega
      have hn2 : ¬ q = w.heap.size := by omega
      clear hcn
      have hX8 := HP7.out.setE (cs' := rcells { s with nxt := s.nxt + pn, due := false }) 12 (.bool false) (by simp [rcells])
      have hR8 : Row (w7.setCell ⟨q, 12, none⟩ (.bool false)) w.heap.size 5 1 (.slice A9 many c9) many (ds.map (Value.int .u8)) := HP7.out.rowE HR7.out 12 _
      have HD : Hid (SayP w B q 66 (rcells S') vo vi s.said s.got SG (.returned (sgc SG.seq SG.ack SG.flags SG.window A9 many c9)) _) := Lib.hid (SPos.done (sg := SG) (by rw [HSG.out, HNX.out, HMX.out]; exact hX8) (by rw [HSG.out]; exact HDL.out.symm) (by rw [HSG.out]; exact hR8))
      rw [HSG.out] at HD
      dsimp only at HD
      clear hX8 hR8
      go_wp2
      exact bodyPost_ret (v := sgc (s.seqI s.nxt) s.awI (fl + 2) (64 - ((s.got.length : Int) - s.rd)) A9 many c9) (by simp [results, Try.results96, go_sem, sgc, hz, hlz, hn1, hn2]) rfl (by rw [HSG.out]; exact HD.out)
end
end Go.Proofs.Ythlhjaacjhlkhaa
