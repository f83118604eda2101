/- One end of a stream: contract of Out at an open end; the whole of Out. -/
import Derived.Test.YthlhjaacjhlkhaaSgD
import Derived.LoopTactic
namespace Go.Proofs.Ythlhjaacjhlkhaa
open Go.RowKit
set_option maxHeartbeats 400000
set_option linter.unusedVariables false
set_option linter.unusedSimpArgs false
theorem drop_part (s : Sm) (a n : Nat) : (s.out.drop a).take n = (s.said.drop (s.acked + a)).take n := by
  unfold Sm.out
  rw [List.drop_drop]
theorem OutS.grow {w W W' : World} {B g m : Nat} {vo vi v : Value} {s s1 : Sm} {L : List Sg} {x1 : EC} (h : OutS w B g vo vi s m W v L s1 x1) (hb : Below W.heap.size W W') : OutS w B g vo vi s m W' v L s1 x1 :=
  ⟨h.tie, h.ok, h.sam, Ob2.grow h.o hb, h.f.trans ((Fr.of_grow hb).mono (fun _ _ h => h.elim)) (fun _ _ h => h), h.l.grow hb⟩
section
variable {w : World} {B g : Nat} {x : EC} {s : Sm} {vo vi : Value} {m : Nat}
set_option maxHeartbeats 8000000 in
set_option maxRecDepth 100000 in
theorem out50_open (h : ESt w B g x vo vi s.out s.inn) (tie : Tie s x) (hB : B ≤ w.heap.size) (hok : s.Ok m) (hm : m ≤ 1000) (hst : s.st = 4) :
    Calls Try.prog 50 #[.pointer (some ⟨g, 0, none⟩)] w (OutP w B g vo vi s m s.openO) := by
  have HB := Lib.hid h
  have HT := Lib.hid tie
  have HOK := Lib.hid hok
  have htop := hok.top_le hm
  have hnt := hok.nt
  have hun := hok.un
  have HTOP : Hid (s.top ≤ 64002 ∧ s.nxt ≤ s.top ∧ s.una ≤ s.nxt) := Lib.hid ⟨htop, hnt, hun⟩
  have HSL : Hid (s.out.length ≤ 64 ∧ s.inn.length ≤ 64 ∧ s.said.length ≤ 64000) := Lib.hid ⟨by rw [s.out_len]; exact hok.room, by rw [s.inn_len]; exact hok.rroom, by have := hok.said; omega⟩
  have hgl := (Ob2.blk h).lt
  have HFP := Lib.hid (fun k hk => (Ob2.lt h k hk).2)
  have hc := (Ob2.blk h).cell
  have HO0 : Hid (OutS w B g vo vi s m w (.slice none 0 0) [] s x) := Lib.hid ⟨tie, hok, Sam.refl s, h, Fr.refl _ _, SgL.nil _ _⟩
  obtain ⟨i1, ii1, hz10, hz11, hz12⟩ := info_parts pseginfo
  obtain ⟨A0, c0, A', c', hvo, hvi, h1, h2, h3, h4⟩ := h.look
  have HVO := Lib.hid hvo
  dsimp only [ecells] at hc
  have d2 : (x.st == 2) = false := by rw [tie.st, hst]; rfl
  have d3 : (x.st == 3) = false := by rw [tie.st, hst]; rfl
  have d4 : (x.st != 4) = false := by rw [tie.st, hst]; rfl
  have HS4 := Lib.hid hst
  obtain ⟨pm, hpm⟩ : ∃ pm : Nat, max s.peer 1 = pm := ⟨(max s.peer 1).toNat, by omega⟩
  have HPM := Lib.hid hpm
  have HLIM : Hid (s.limitN = min (s.acked + pm) s.said.length) := Lib.hid (by unfold Sm.limitN; rw [show max s.peer.toNat 1 = pm by omega])
  obtain ⟨ll, hll0⟩ : ∃ ll, s.out.length = ll := ⟨_, rfl⟩
  have HLL := Lib.hid hll0
  have HVOO := HVO
  rw [hll0] at h1 HVO
  have hll64 : ll ≤ 64 := by rw [← hll0]; exact HSL.out.1
  have hpm255 : pm ≤ 255 := by have := hok.peer; omega
  have HSTART : Hid (s.limitN - (s.nxt - 1) ≤ 64) := Lib.hid (by
    have h8 := s.limit_le
    have h9 : s.acked = min (s.una - 1) s.said.length := rfl
    have := hok.room
    omega)
  obtain ⟨RES, hRES⟩ : ∃ r, s.openO = r := ⟨_, rfl⟩
  rw [hRES]
  have HRES := Lib.hid hRES
  clear h tie hok hst htop hnt hun hm hvo hvi hpm hll0 hRES
  go_enter Try.func50, Try.ntmps50
  go_wp2_with fail
  go_quiet (fail)
  obtain ⟨W, hW⟩ : ∃ W, W = w.drewN nq := ⟨_, rfl⟩
  rw [← hW]
  have HO00 : Hid (OutS w B g vo vi s m W (.slice none 0 0) [] s x) := Lib.hid (by rw [hW]; exact HO0.out.grow (st_drewN (Below.refl _ _) _))
  clear hW hc HO0
  have hc := HO00.out.o.blk.cell
  have hlt0 := HO00.out.o.blk.lt
  dsimp only [ecells] at hc
  go_wp2
  clear hc hlt0 d2 d3 d4
  go_loopw [3] (fun v wr => ∃ L s1 x1 A c f, v = .slice A L.length c ∧ OutS w B g vo vi s m wr (.slice A L.length c) L s1 x1 ∧ LoopI s L s1 f) (fun v _ => 64 - lenOf v)
  case atStart => exact ⟨[], s, x, none, 0, 64, rfl, HO00.out, LoopI.start s HSTART.out⟩
  case round =>
    clear HO00
    obtain ⟨L, s1, x1, A, c, f, rfl, hO, hI⟩ := hrel
    have HO := Lib.hid hO
    have HI := Lib.hid hI
    have hst1 : s1.st = 4 := hO.sam.st.trans HS4.out
    have hla := hO.ok.late hst1
    have hun1 := hO.ok.un
    have hnt1 := hO.ok.nt
    have htl1 := hO.ok.tl
    have hack : s1.acked = s.acked := hO.sam.acked
    have hack2 : s1.acked = min (s1.una - 1) s1.said.length := rfl
    have hsd := hO.sam.said
    obtain ⟨an, han⟩ : ∃ an, s1.nxt - 1 - s.acked = an := ⟨_, rfl⟩
    have han2 : s1.nxt = s.acked + an + 1 := by omega
    have hat : (x1.nxt - x1.first) % 4294967296 = (an : Int) := by
      rw [hO.tie.nxt, hO.tie.first, hack]
      unfold Sm.seqI
      have : s1.iss = s1.iss := rfl
      have h9 := hO.tie.nxt
      have := HSL.out.2.2
      rw [← hsd] at this
      omega
    have hLn := hI.n
    have HPEER : Hid (x1.peer = s.peer) := Lib.hid (hO.tie.peer.trans hO.sam.peer)
    have hlim : s.limitN = min (s.acked + pm) s.said.length := HLIM.out
    have hll : ll = s.said.length - s.acked := by have := HLL.out; rw [s.out_len] at this; omega
    have hacl := s.acked_le
    have HAN := Lib.hid han2
    have HST1 := Lib.hid hst1
    have hanb : an ≤ 1000000 := by have := HSL.out.2.2; rw [← hsd] at this; omega
    have HNT1 : Hid (s1.top ≤ 1000000 ∧ s1.nxt ≤ s1.top ∧ 1 ≤ s1.nxt) := Lib.hid ⟨by have := HSL.out.2.2; rw [← hsd] at this; omega, hnt1, by omega⟩
    have hc := hO.o.blk.cell
    have hlt1 := hO.o.blk.lt
    dsimp only [ecells] at hc
    have hLl : L.length ≤ 64 := by omega
    have hmax := HPM.out
    by_cases hlt : s1.nxt - 1 < s.limitN
    · skip
      have HLT := Lib.hid hlt
      obtain ⟨n, hn⟩ : ∃ n, min 32 (s.limitN - (s1.nxt - 1)) = n := ⟨_, rfl⟩
      have HN := Lib.hid hn
      have hn1 : 0 < n := by omega
      have hn32 : n ≤ 32 := by omega
      have hmin : min (min 32 ((ll : Int) - an)) ((pm : Int) - an) = (n : Int) := by omega
      have hle : an + n ≤ ll := by omega
      clear hO hI hst1 hla hun1 hnt1 htl1 hack hack2 hsd han han2 hLn hlim hll hacl
      clear hlt hn
      have hLl : L.length < 64 := by have := HI.out.n; have := HI.out.r; have := HLT.out; omega
      go_wp2_with fail
      go_quiet (fail)
      obtain ⟨W6, hW6⟩ : ∃ W, W = wr.drewN nq := ⟨_, rfl⟩
      rw [← hW6]
      have HO6 : Hid (OutS w B g vo vi s m W6 (.slice A L.length c) L s1 x1) := Lib.hid (by rw [hW6]; exact HO.out.grow (st_drewN (Below.refl _ _) _))
      clear hW6 hc hlt1
      have HK7 : Hid (∀ w', Below W6.heap.size W6 w' → w'.cell? ⟨g, 6, none⟩ = some (.slice A0 ll c0) ∧ w'.cell? ⟨g, 8, none⟩ = some (.int .i64 s.peer)) := Lib.hid (fun w' hb => by
        have ho := HO6.out.grow hb
        have hc := ho.o.blk.cell
        refine ⟨(hc 6).trans (congrArg some HVO.out), (hc 8).trans ?_⟩
        rw [← HPEER.out]
        rfl)
      go_wp2_with fail
      refine wp_region_walk (fun w' => Below W6.heap.size W6 w') [[], [(50, 0)], [(51, 1)], [(52, 2)], [(53, 3)], [], [(54, 4), (55, 5)], [], [(57, 7)], [(58, 8)], [(59, 9)], [(60, 10)], [], [(61, 11), (62, 12)], [(56, 6), (63, 13)]]
        [(50, 0), (51, 1), (52, 2), (53, 3), (54, 4), (55, 5), (56, 6), (57, 7), (58, 8), (59, 9), (60, 10), (61, 11), (62, 12), (63, 13), (64, 14)] (by kernel_rfl) (by kernel_rfl) (by kernel_rfl) (Below.refl _ _).drew ?_
      apply Flow.det_step
      · go_light
        intro w1 hC1
        simp only [Flow.fill, Flow.after, Flow.at_, List.nil_append, List.cons_append, List.getD_cons_zero, List.getD_cons_succ, det, forall_eq, List.setIfInBounds_toArray, List.set_cons_zero, List.set_cons_succ, List.drop, List.length]
        have hb1 := hC1
        obtain ⟨k6, k8⟩ := HK7.out w1 hb1
        go_wp2
        exact Flow.post_det hb1 (Grow.refl _) rfl rfl
      apply Flow.det_step
      · go_light
        intro w1 hC1
        simp only [Flow.fill, Flow.after, Flow.at_, List.nil_append, List.cons_append, List.getD_cons_zero, List.getD_cons_succ, det, forall_eq, List.setIfInBounds_toArray, List.set_cons_zero, List.set_cons_succ, List.drop, List.length]
        have hb1 := hC1
        obtain ⟨k6, k8⟩ := HK7.out w1 hb1
        go_wp2
        exact Flow.post_det hb1 (Grow.refl _) rfl rfl
      apply Flow.det_step
      · go_light
        intro w1 hC1
        simp only [Flow.fill, Flow.after, Flow.at_, List.nil_append, List.cons_append, List.getD_cons_zero, List.getD_cons_succ, det, forall_eq, List.setIfInBounds_toArray, List.set_cons_zero, List.set_cons_succ, List.drop, List.length]
        have hb1 := hC1
        obtain ⟨k6, k8⟩ := HK7.out w1 hb1
        go_wp2
        exact Flow.post_det hb1 (Grow.refl _) rfl rfl
      apply Flow.det_step
      · go_light
        intro w1 hC1
        simp only [Flow.fill, Flow.after, Flow.at_, List.nil_append, List.cons_append, List.getD_cons_zero, List.getD_cons_succ, det, forall_eq, List.setIfInBounds_toArray, List.set_cons_zero, List.set_cons_succ, List.drop, List.length]
        have hb1 := hC1
        obtain ⟨k6, k8⟩ := HK7.out w1 hb1
        go_wp2
        exact Flow.post_det hb1 (Grow.refl _) rfl rfl
      apply Flow.det_step
      · go_light
        intro w1 hC1
        simp only [Flow.fill, Flow.after, Flow.at_, List.nil_append, List.cons_append, List.getD_cons_zero, List.getD_cons_succ, det, forall_eq, List.setIfInBounds_toArray, List.set_cons_zero, List.set_cons_succ, List.drop, List.length]
        have hb1 := hC1
        obtain ⟨k6, k8⟩ := HK7.out w1 hb1
        go_wp2
        exact Flow.post_det hb1 (Grow.refl _) rfl rfl
      apply Flow.det_step
      · go_light
        intro w1 hC1
        simp only [Flow.fill, Flow.after, Flow.at_, List.nil_append, List.cons_append, List.getD_cons_zero, List.getD_cons_succ, det, forall_eq, List.setIfInBounds_toArray, List.set_cons_zero, List.set_cons_succ, List.drop, List.length]
        have hb1 := hC1
        obtain ⟨k6, k8⟩ := HK7.out w1 hb1
        go_wp2
        exact Flow.post_det hb1 (Grow.refl _) rfl rfl
      apply Flow.det_step
      · go_light
        intro w1 hC1
        simp only [Flow.fill, Flow.after, Flow.at_, List.nil_append, List.cons_append, List.getD_cons_zero, List.getD_cons_succ, det, forall_eq, List.setIfInBounds_toArray, List.set_cons_zero, List.set_cons_succ, List.drop, List.length]
        have hb1 := hC1
        obtain ⟨k6, k8⟩ := HK7.out w1 hb1
        go_wp2
        exact Flow.post_det hb1 (Grow.refl _) rfl rfl
      apply Flow.det_step
      · go_light
        intro w1 hC1
        simp only [Flow.fill, Flow.after, Flow.at_, List.nil_append, List.cons_append, List.getD_cons_zero, List.getD_cons_succ, det, forall_eq, List.setIfInBounds_toArray, List.set_cons_zero, List.set_cons_succ, List.drop, List.length]
        have hb1 := hC1
        obtain ⟨k6, k8⟩ := HK7.out w1 hb1
        go_wp2
        exact Flow.post_det hb1 (Grow.refl _) rfl rfl
      apply Flow.det_step
      · go_light
        intro w1 hC1
        simp only [Flow.fill, Flow.after, Flow.at_, List.nil_append, List.cons_append, List.getD_cons_zero, List.getD_cons_succ, det, forall_eq, List.setIfInBounds_toArray, List.set_cons_zero, List.set_cons_succ, List.drop, List.length]
        have hb1 := hC1
        obtain ⟨k6, k8⟩ := HK7.out w1 hb1
        go_wp2
        exact Flow.post_det hb1 (Grow.refl _) rfl rfl
      apply Flow.det_step
      · go_light
        intro w1 hC1
        simp only [Flow.fill, Flow.after, Flow.at_, List.nil_append, List.cons_append, List.getD_cons_zero, List.getD_cons_succ, det, forall_eq, List.setIfInBounds_toArray, List.set_cons_zero, List.set_cons_succ, List.drop, List.length]
        have hb1 := hC1
        obtain ⟨k6, k8⟩ := HK7.out w1 hb1
        go_wp2
        exact Flow.post_det hb1 (Grow.refl _) rfl rfl
      apply Flow.det_step
      · go_light
        intro w1 hC1
        simp only [Flow.fill, Flow.after, Flow.at_, List.nil_append, List.cons_append, List.getD_cons_zero, List.getD_cons_succ, det, forall_eq, List.setIfInBounds_toArray, List.set_cons_zero, List.set_cons_succ, List.drop, List.length]
        have hb1 := hC1
        obtain ⟨k6, k8⟩ := HK7.out w1 hb1
        go_wp2
        exact Flow.post_det hb1 (Grow.refl _) rfl rfl
      apply Flow.det_step
      · go_light
        intro w1 hC1
        simp only [Flow.fill, Flow.after, Flow.at_, List.nil_append, List.cons_append, List.getD_cons_zero, List.getD_cons_succ, det, forall_eq, List.setIfInBounds_toArray, List.set_cons_zero, List.set_cons_succ, List.drop, List.length]
        have hb1 := hC1
        obtain ⟨k6, k8⟩ := HK7.out w1 hb1
        go_wp2_with (refine wpList_max _ rfl (.tmp 60) (.const (.int .i64 1)) 3 3 rfl s.peer 1 pm rfl rfl hmax ?_)
        exact Flow.post_det hb1 (Grow.refl _) rfl rfl
      apply Flow.det_step
      · go_light
        intro w1 hC1
        simp only [Flow.fill, Flow.after, Flow.at_, List.nil_append, List.cons_append, List.getD_cons_zero, List.getD_cons_succ, det, forall_eq, List.setIfInBounds_toArray, List.set_cons_zero, List.set_cons_succ, List.drop, List.length]
        have hb1 := hC1
        obtain ⟨k6, k8⟩ := HK7.out w1 hb1
        go_wp2
        exact Flow.post_det hb1 (Grow.refl _) rfl rfl
      apply Flow.det_step
      · go_light
        intro w1 hC1
        simp only [Flow.fill, Flow.after, Flow.at_, List.nil_append, List.cons_append, List.getD_cons_zero, List.getD_cons_succ, det, forall_eq, List.setIfInBounds_toArray, List.set_cons_zero, List.set_cons_succ, List.drop, List.length]
        have hb1 := hC1
        obtain ⟨k6, k8⟩ := HK7.out w1 hb1
        go_wp2
        exact Flow.post_det hb1 (Grow.refl _) rfl rfl
      apply Flow.det_step
      · go_light
        intro w1 hC1
        simp only [Flow.fill, Flow.after, Flow.at_, List.nil_append, List.cons_append, List.getD_cons_zero, List.getD_cons_succ, det, forall_eq, List.setIfInBounds_toArray, List.set_cons_zero, List.set_cons_succ, List.drop, List.length]
        have hb1 := hC1
        obtain ⟨k6, k8⟩ := HK7.out w1 hb1
        go_wp2_with (refine wpList_min3 _ rfl (.const (.int .i64 32)) (.tmp 56) (.tmp 63) 3 3 3 rfl 32 ((ll : Int) - an) ((pm : Int) - an) (n : Int) rfl rfl rfl hmin ?_)
        exact Flow.post_det hb1 (Grow.refl _) rfl rfl
      intro w1 hC1
      simp only [Flow.fill, Flow.after, Flow.at_, List.nil_append, List.cons_append, List.getD_cons_zero, List.getD_cons_succ, det, forall_eq, List.setIfInBounds_toArray, List.set_cons_zero, List.set_cons_succ, List.drop, List.length]
      have hb1 := hC1
      have HO7 := Lib.hid (HO6.out.grow hb1)
      clear hb1 HK7 hmax hmin
      have hc := HO7.out.o.blk.cell
      have hlt1 := HO7.out.o.blk.lt
      dsimp only [ecells] at hc
      rw [HVO.out] at hc
      have d8 : decide ((n : Int) ≤ 0) = false := by simp; omega
      have hrb0 : RB w1 w1.heap.size A0 s.out.length s.out := ⟨(show Row w1 B 5 1 (.slice A0 s.out.length c0) s.out.length _ from by have hr := HO7.out.o.ro; rw [HVOO.out] at hr; exact hr).reads, HO7.out.o.bo⟩
      rw [HLL.out] at hrb0
      obtain ⟨b0, o0, rfl, hb00, -⟩ := hrb0.at_ (k := 0) (by omega)
      have HRB0 := Lib.hid hrb0
      have hrbn := RB.part hrb0 hle
      rw [drop_part] at hrbn
      have hsn : s.acked + an = s1.nxt - 1 := by have := HAN.out; omega
      rw [hsn, ← HO7.out.sam.said] at hrbn
      have HRBN := Lib.hid hrbn
      have hsub : an + n - an = n := by omega
      have hcl : ¬ c0 = an := by omega
      clear hrb0 hrbn hsn hb00
      obtain ⟨ds, hds⟩ : ∃ ds, (s1.said.drop (s1.nxt - 1)).take n = ds := ⟨_, rfl⟩
      rw [hds] at HRBN
      have HDS := Lib.hid hds
      clear hds
      have HSAYb := Lib.hid (say95 HO7.out.o 0 (by decide) (some ⟨b0, o0 + an, none⟩) n (c0 - an) ds HRBN.out hn32 HSL.out.2.1)
      obtain ⟨SGb, hSGb⟩ : ∃ SG, sayE x1 s.inn.length 0 ds = SG := ⟨_, rfl⟩
      obtain ⟨Xb, hXb⟩ : ∃ X, sayX x1 ((n : Nat) + 0 % 2 + 0 / 4 % 2) = X := ⟨_, rfl⟩
      rw [hSGb, hXb] at HSAYb
      have HSGb := Lib.hid hSGb
      have HXb := Lib.hid hXb
      clear hSGb hXb
      go_wp2_with fail
      refine HSAYb.out.mono ?_
      clear hc hlt1 hsub hcl d8
      rintro e W5b ⟨A5, c5, rfl, hr5, ho5, hf5⟩
      have HBYb : Hid (Byt SGb.dat) := Lib.hid (by rw [← HSGb.out]; exact (show Byt ds from HRBN.out.2))
      obtain ⟨xs', hX1, hX2⟩ := out_step HO7.out.f hgl HO7.out.l hr5 ho5 hf5 HBYb.out HFP.out
      have HX1 := Lib.hid hX1
      have HX2 := Lib.hid hX2
      have hW5b : w.heap.size ≤ W5b.heap.size := (HO7.out.f.trans' hf5).size
      clear hr5 ho5 hf5 hX1 hX2
      unfold sgc
      go_wp2_with (at_builtin; refine wpList_append_row _ rfl (.tmp 67) (.tmp 79) 75 rfl w.heap.size 25 i1 (.agg #[.int .u32 0, .int .u32 0, .int .i64 0, .int .i64 0, .slice none 0 0]) 5 48 Try.underlying75 ii1 hz10 hz11 hz12 rfl (by decide) (.slice A L.length c) L.length xs' rfl HX1.out (W5b.heap.size + 1) (some ⟨W5b.heap.size, 0, none⟩) 1 1 [.int .u32 SGb.seq, .int .u32 SGb.ack, .int .i64 SGb.flags, .int .i64 SGb.window, .slice A5 SGb.dat.length c5] rfl (reads_new W5b #[.int .u32 SGb.seq, .int .u32 SGb.ack, .int .i64 SGb.flags, .int .i64 SGb.window, .slice A5 SGb.dat.length c5] 25 5 rfl) (one5 _ _ _ _ _ _ _) ?d1 ?d2 ?d3 ?_; rotate_left; skip)
      case d1 => unfold maxLen; omega
      case d2 => omega
      case d3 => simp; omega
      intro A9 c9 Wb hr9 hg9 ho9
      obtain ⟨ho2, hf2, hl2⟩ := HX2.out Wb A9 c9 hr9 hg9
      obtain ⟨f', hI2⟩ := HI.out.step HLT.out HNT1.out.2.2
      have e1 : SGb = s1.saySg 0 n := by
        have h9 := tie_saySg HO7.out.tie (by rw [HST1.out]; decide) (by rw [HST1.out]; decide) 0 n
        rw [HDS.out, HO7.out.sam.inn, HSGb.out] at h9
        exact h9
      have e2 : Xb = sayX x1 n := by rw [← HXb.out]; first | rfl | (congr 1; omega)
      rw [HN.out, ← e1] at hI2
      have HI2 := Lib.hid hI2
      have HOb : Hid (OutS w B g vo vi s m Wb (.slice A9 (L ++ [SGb]).length c9) (L ++ [SGb]) (s1.sayS n) Xb) := Lib.hid (by
        refine ⟨by rw [e2]; exact tie_say HO7.out.tie HNT1.out.1 HNT1.out.2.1 n (by omega), HO7.out.ok.say (by have h1 := HN.out; have h2 := HLT.out; have h3 := s.limit_le; rw [HO7.out.sam.said]; omega) (fun h => by rw [HST1.out] at h; omega), HO7.out.sam.say n, ho2, hf2, ?_⟩
        rw [List.length_append]
        exact hl2)
      clear hI2 e1 e2 ho2 hf2 hl2 hr9 hg9 ho9
      go_wp2
      go_roundw
      case rel => exact ⟨L ++ [SGb], s1.sayS n, Xb, A9, c9, f', by rw [List.length_append]; rfl, HOb.out, HI2.out⟩
      case measure => simp [lenOf]; omega
    · skip
      obtain ⟨Z, hmin⟩ : ∃ Z, min (min 32 ((ll : Int) - an)) ((pm : Int) - an) = Z := ⟨_, rfl⟩
      have hZ : Z ≤ 0 := by omega
      have HD := Lib.hid (hI.done hlt)
      have HFB : Hid (((an : Int) == ll) = decide (s1.nxt - 1 = s1.said.length)) := Lib.hid (by rw [Bool.eq_iff_iff, beq_iff_eq, decide_eq_true_eq, hsd]; omega)
      have HDU : Hid (x1.due = s1.due ∧ x1.shut = s1.shut) := Lib.hid ⟨hO.tie.due, hO.tie.shut⟩
      clear hO hI hst1 hla hun1 hnt1 htl1 hack hack2 hsd han han2 hLn hlim hll hacl
      clear hlt
      go_wp2_with fail
      go_quiet (fail)
      obtain ⟨W6, hW6⟩ : ∃ W, W = wr.drewN nq := ⟨_, rfl⟩
      rw [← hW6]
      have HO6 : Hid (OutS w B g vo vi s m W6 (.slice A L.length c) L s1 x1) := Lib.hid (by rw [hW6]; exact HO.out.grow (st_drewN (Below.refl _ _) _))
      clear hW6 hc hlt1
      have HK7 : Hid (∀ w', Below W6.heap.size W6 w' → w'.cell? ⟨g, 6, none⟩ = some (.slice A0 ll c0) ∧ w'.cell? ⟨g, 8, none⟩ = some (.int .i64 s.peer)) := Lib.hid (fun w' hb => by
        have ho := HO6.out.grow hb
        have hc := ho.o.blk.cell
        refine ⟨(hc 6).trans (congrArg some HVO.out), (hc 8).trans ?_⟩
        rw [← HPEER.out]
        rfl)
      go_wp2_with fail
      refine wp_region_walk (fun w' => Below W6.heap.size W6 w') [[], [(50, 0)], [(51, 1)], [(52, 2)], [(53, 3)], [], [(54, 4), (55, 5)], [], [(57, 7)], [(58, 8)], [(59, 9)], [(60, 10)], [], [(61, 11), (62, 12)], [(56, 6), (63, 13)]]
        [(50, 0), (51, 1), (52, 2), (53, 3), (54, 4), (55, 5), (56, 6), (57, 7), (58, 8), (59, 9), (60, 10), (61, 11), (62, 12), (63, 13), (64, 14)] (by kernel_rfl) (by kernel_rfl) (by kernel_rfl) (Below.refl _ _).drew ?_
      apply Flow.det_step
      · go_light
        intro w1 hC1
        simp only [Flow.fill, Flow.after, Flow.at_, List.nil_append, List.cons_append, List.getD_cons_zero, List.getD_cons_succ, det, forall_eq, List.setIfInBounds_toArray, List.set_cons_zero, List.set_cons_succ, List.drop, List.length]
        have hb1 := hC1
        obtain ⟨k6, k8⟩ := HK7.out w1 hb1
        go_wp2
        exact Flow.post_det hb1 (Grow.refl _) rfl rfl
      apply Flow.det_step
      · go_light
        intro w1 hC1
        simp only [Flow.fill, Flow.after, Flow.at_, List.nil_append, List.cons_append, List.getD_cons_zero, List.getD_cons_succ, det, forall_eq, List.setIfInBounds_toArray, List.set_cons_zero, List.set_cons_succ, List.drop, List.length]
        have hb1 := hC1
        obtain ⟨k6, k8⟩ := HK7.out w1 hb1
        go_wp2
        exact Flow.post_det hb1 (Grow.refl _) rfl rfl
      apply Flow.det_step
      · go_light
        intro w1 hC1
        simp only [Flow.fill, Flow.after, Flow.at_, List.nil_append, List.cons_append, List.getD_cons_zero, List.getD_cons_succ, det, forall_eq, List.setIfInBounds_toArray, List.set_cons_zero, List.set_cons_succ, List.drop, List.length]
        have hb1 := hC1
        obtain ⟨k6, k8⟩ := HK7.out w1 hb1
        go_wp2
        exact Flow.post_det hb1 (Grow.refl _) rfl rfl
      apply Flow.det_step
      · go_light
        intro w1 hC1
        simp only [Flow.fill, Flow.after, Flow.at_, List.nil_append, List.cons_append, List.getD_cons_zero, List.getD_cons_succ, det, forall_eq, List.setIfInBounds_toArray, List.set_cons_zero, List.set_cons_succ, List.drop, List.length]
        have hb1 := hC1
        obtain ⟨k6, k8⟩ := HK7.out w1 hb1
        go_wp2
        exact Flow.post_det hb1 (Grow.refl _) rfl rfl
      apply Flow.det_step
      · go_light
        intro w1 hC1
        simp only [Flow.fill, Flow.after, Flow.at_, List.nil_append, List.cons_append, List.getD_cons_zero, List.getD_cons_succ, det, forall_eq, List.setIfInBounds_toArray, List.set_cons_zero, List.set_cons_succ, List.drop, List.length]
        have hb1 := hC1
        obtain ⟨k6, k8⟩ := HK7.out w1 hb1
        go_wp2
        exact Flow.post_det hb1 (Grow.refl _) rfl rfl
      apply Flow.det_step
      · go_light
        intro w1 hC1
        simp only [Flow.fill, Flow.after, Flow.at_, List.nil_append, List.cons_append, List.getD_cons_zero, List.getD_cons_succ, det, forall_eq, List.setIfInBounds_toArray, List.set_cons_zero, List.set_cons_succ, List.drop, List.length]
        have hb1 := hC1
        obtain ⟨k6, k8⟩ := HK7.out w1 hb1
        go_wp2
        exact Flow.post_det hb1 (Grow.refl _) rfl rfl
      apply Flow.det_step
      · go_light
        intro w1 hC1
        simp only [Flow.fill, Flow.after, Flow.at_, List.nil_append, List.cons_append, List.getD_cons_zero, List.getD_cons_succ, det, forall_eq, List.setIfInBounds_toArray, List.set_cons_zero, List.set_cons_succ, List.drop, List.length]
        have hb1 := hC1
        obtain ⟨k6, k8⟩ := HK7.out w1 hb1
        go_wp2
        exact Flow.post_det hb1 (Grow.refl _) rfl rfl
      apply Flow.det_step
      · go_light
        intro w1 hC1
        simp only [Flow.fill, Flow.after, Flow.at_, List.nil_append, List.cons_append, List.getD_cons_zero, List.getD_cons_succ, det, forall_eq, List.setIfInBounds_toArray, List.set_cons_zero, List.set_cons_succ, List.drop, List.length]
        have hb1 := hC1
        obtain ⟨k6, k8⟩ := HK7.out w1 hb1
        go_wp2
        exact Flow.post_det hb1 (Grow.refl _) rfl rfl
      apply Flow.det_step
      · go_light
        intro w1 hC1
        simp only [Flow.fill, Flow.after, Flow.at_, List.nil_append, List.cons_append, List.getD_cons_zero, List.getD_cons_succ, det, forall_eq, List.setIfInBounds_toArray, List.set_cons_zero, List.set_cons_succ, List.drop, List.length]
        have hb1 := hC1
        obtain ⟨k6, k8⟩ := HK7.out w1 hb1
        go_wp2
        exact Flow.post_det hb1 (Grow.refl _) rfl rfl
      apply Flow.det_step
      · go_light
        intro w1 hC1
        simp only [Flow.fill, Flow.after, Flow.at_, List.nil_append, List.cons_append, List.getD_cons_zero, List.getD_cons_succ, det, forall_eq, List.setIfInBounds_toArray, List.set_cons_zero, List.set_cons_succ, List.drop, List.length]
        have hb1 := hC1
        obtain ⟨k6, k8⟩ := HK7.out w1 hb1
        go_wp2
        exact Flow.post_det hb1 (Grow.refl _) rfl rfl
      apply Flow.det_step
      · go_light
        intro w1 hC1
        simp only [Flow.fill, Flow.after, Flow.at_, List.nil_append, List.cons_append, List.getD_cons_zero, List.getD_cons_succ, det, forall_eq, List.setIfInBounds_toArray, List.set_cons_zero, List.set_cons_succ, List.drop, List.length]
        have hb1 := hC1
        obtain ⟨k6, k8⟩ := HK7.out w1 hb1
        go_wp2
        exact Flow.post_det hb1 (Grow.refl _) rfl rfl
      apply Flow.det_step
      · go_light
        intro w1 hC1
        simp only [Flow.fill, Flow.after, Flow.at_, List.nil_append, List.cons_append, List.getD_cons_zero, List.getD_cons_succ, det, forall_eq, List.setIfInBounds_toArray, List.set_cons_zero, List.set_cons_succ, List.drop, List.length]
        have hb1 := hC1
        obtain ⟨k6, k8⟩ := HK7.out w1 hb1
        go_wp2_with (refine wpList_max _ rfl (.tmp 60) (.const (.int .i64 1)) 3 3 rfl s.peer 1 pm rfl rfl hmax ?_)
        exact Flow.post_det hb1 (Grow.refl _) rfl rfl
      apply Flow.det_step
      · go_light
        intro w1 hC1
        simp only [Flow.fill, Flow.after, Flow.at_, List.nil_append, List.cons_append, List.getD_cons_zero, List.getD_cons_succ, det, forall_eq, List.setIfInBounds_toArray, List.set_cons_zero, List.set_cons_succ, List.drop, List.length]
        have hb1 := hC1
        obtain ⟨k6, k8⟩ := HK7.out w1 hb1
        go_wp2
        exact Flow.post_det hb1 (Grow.refl _) rfl rfl
      apply Flow.det_step
      · go_light
        intro w1 hC1
        simp only [Flow.fill, Flow.after, Flow.at_, List.nil_append, List.cons_append, List.getD_cons_zero, List.getD_cons_succ, det, forall_eq, List.setIfInBounds_toArray, List.set_cons_zero, List.set_cons_succ, List.drop, List.length]
        have hb1 := hC1
        obtain ⟨k6, k8⟩ := HK7.out w1 hb1
        go_wp2
        exact Flow.post_det hb1 (Grow.refl _) rfl rfl
      apply Flow.det_step
      · go_light
        intro w1 hC1
        simp only [Flow.fill, Flow.after, Flow.at_, List.nil_append, List.cons_append, List.getD_cons_zero, List.getD_cons_succ, det, forall_eq, List.setIfInBounds_toArray, List.set_cons_zero, List.set_cons_succ, List.drop, List.length]
        have hb1 := hC1
        obtain ⟨k6, k8⟩ := HK7.out w1 hb1
        go_wp2_with (refine wpList_min3 _ rfl (.const (.int .i64 32)) (.tmp 56) (.tmp 63) 3 3 3 rfl 32 ((ll : Int) - an) ((pm : Int) - an) Z rfl rfl rfl hmin ?_)
        exact Flow.post_det hb1 (Grow.refl _) rfl rfl
      intro w1 hC1
      simp only [Flow.fill, Flow.after, Flow.at_, List.nil_append, List.cons_append, List.getD_cons_zero, List.getD_cons_succ, det, forall_eq, List.setIfInBounds_toArray, List.set_cons_zero, List.set_cons_succ, List.drop, List.length]
      have hb1 := hC1
      have HO7 := Lib.hid (HO6.out.grow hb1)
      clear hb1 HK7 hmax hmin
      have hc := HO7.out.o.blk.cell
      have hlt1 := HO7.out.o.blk.lt
      dsimp only [ecells] at hc
      rw [HVO.out] at hc
      have d8 : decide (Z ≤ 0) = true := by simpa using hZ
      obtain ⟨bsh, hbsh⟩ : ∃ b, x1.shut = b := ⟨_, rfl⟩
      obtain ⟨bdu, hbdu⟩ : ∃ b, x1.due = b := ⟨_, rfl⟩
      obtain ⟨ban, hban⟩ : ∃ b, ((an : Int) == ll) = b := ⟨_, rfl⟩
      rw [hbsh, hbdu] at hc HDU
      rw [hban] at HFB
      have HOP : Hid (s.openO = (L ++ (Sm.finO s1).1 ++ (Sm.dueO (Sm.finO s1).2).1, (Sm.dueO (Sm.finO s1).2).2)) := Lib.hid (by unfold Sm.openO; rw [HD.out])
      have HX1 : Hid (x1.shut = bsh ∧ x1.due = bdu) := Lib.hid ⟨hbsh, hbdu⟩
      clear hbsh hbdu
      cases bsh with
      | true =>
        cases ban with
        | true =>
          have HR : Hid (s.openO = (L ++ [s1.saySg 4 0], s1.sayS 1)) := Lib.hid (by rw [HOP.out]; have hf : Sm.finO s1 = ([s1.saySg 4 0], s1.sayS 1) := (by unfold Sm.finO; rw [if_pos ⟨HDU.out.2.symm, of_decide_eq_true HFB.out.symm⟩]); rw [hf]; unfold Sm.dueO; rw [if_neg (show ¬ (s1.sayS 1).due = true from by show ¬ false = true; decide)]; simp)
          go_wp2_with fail
          go_quiet (fail)
          obtain ⟨W8, hW8⟩ : ∃ W, W = w1.drewN nq := ⟨_, rfl⟩
          rw [← hW8]
          have HO8 : Hid (OutS w B g vo vi s m W8 (.slice A L.length c) L s1 x1) := Lib.hid (by rw [hW8]; exact HO7.out.grow (st_drewN (Below.refl _ _) _))
          clear hW8 hc hlt1
          have hc11 := HO8.out.o.blk.cell
          have hlt11 := HO8.out.o.blk.lt
          dsimp only [ecells] at hc11
          rw [HX1.out.1, HX1.out.2] at hc11
          have HSAYk := Lib.hid (say95 HO8.out.o 4 (by decide) none 0 0 ([] : List Int) ⟨⟨by simp, fun h => by simp at h⟩, fun x hx => by cases hx⟩ (by omega) HSL.out.2.1)
          obtain ⟨SGk, hSGk⟩ : ∃ SG, sayE x1 s.inn.length 4 ([] : List Int) = SG := ⟨_, rfl⟩
          obtain ⟨Xk, hXk⟩ : ∃ X, sayX x1 ((0 : Nat) + 4 % 2 + 4 / 4 % 2) = X := ⟨_, rfl⟩
          rw [hSGk, hXk] at HSAYk
          have HSGk := Lib.hid hSGk
          have HXk := Lib.hid hXk
          clear hSGk hXk
          go_wp2_with fail
          refine HSAYk.out.mono ?_
          clear hc11 hlt11
          rintro e W5k ⟨A5, c5, rfl, hr5, ho5, hf5⟩
          have HBYk : Hid (Byt SGk.dat) := Lib.hid (by rw [← HSGk.out]; exact (show Byt ([] : List Int) from (fun x hx => by cases hx)))
          obtain ⟨xs', hX1, hX2⟩ := out_step HO8.out.f hgl HO8.out.l hr5 ho5 hf5 HBYk.out HFP.out
          have HX1 := Lib.hid hX1
          have HX2 := Lib.hid hX2
          have hW5k : w.heap.size ≤ W5k.heap.size := (HO8.out.f.trans' hf5).size
          clear hr5 ho5 hf5 hX1 hX2
          unfold sgc
          go_wp2_with (at_builtin; refine wpList_append_row _ rfl (.tmp 103) (.tmp 106) 75 rfl w.heap.size 25 i1 (.agg #[.int .u32 0, .int .u32 0, .int .i64 0, .int .i64 0, .slice none 0 0]) 5 48 Try.underlying75 ii1 hz10 hz11 hz12 rfl (by decide) (.slice A L.length c) L.length xs' rfl HX1.out (W5k.heap.size + 1) (some ⟨W5k.heap.size, 0, none⟩) 1 1 [.int .u32 SGk.seq, .int .u32 SGk.ack, .int .i64 SGk.flags, .int .i64 SGk.window, .slice A5 SGk.dat.length c5] rfl (reads_new W5k #[.int .u32 SGk.seq, .int .u32 SGk.ack, .int .i64 SGk.flags, .int .i64 SGk.window, .slice A5 SGk.dat.length c5] 25 5 rfl) (one5 _ _ _ _ _ _ _) ?d1 ?d2 ?d3 ?_; rotate_left; skip)
          case d1 => unfold maxLen; omega
          case d2 => omega
          case d3 => simp; omega
          intro A9 c9 Wk hr9 hg9 ho9
          obtain ⟨ho2, hf2, hl2⟩ := HX2.out Wk A9 c9 hr9 hg9
          have e1 : SGk = s1.saySg 4 0 := by
            have h9 := tie_saySg HO8.out.tie (by rw [HST1.out]; decide) (by rw [HST1.out]; decide) 4 0
            rw [List.take_zero, HO8.out.sam.inn, HSGk.out] at h9
            exact h9
          have e2 : Xk = sayX x1 ((1 : Nat) : Int) := by rw [← HXk.out]; rfl
          have HOk : Hid (OutS w B g vo vi s m Wk (.slice A9 (L ++ [s1.saySg 4 0]).length c9) (L ++ [s1.saySg 4 0]) (s1.sayS 1) Xk) := Lib.hid (by
            refine ⟨by rw [e2]; exact tie_say HO8.out.tie HNT1.out.1 HNT1.out.2.1 1 (by omega), HO8.out.ok.say (by have h8 := of_decide_eq_true HFB.out.symm; have := HNT1.out.2.2; omega) (fun h => by rw [HST1.out] at h; omega), HO8.out.sam.say 1, ho2, hf2, ?_⟩
            rw [List.length_append, ← e1]
            exact hl2)
          have hck := HOk.out.o.blk.cell
          have hltk := HOk.out.o.blk.lt
          have hduk : Xk.due = false := by rw [e2]; rfl
          dsimp only [ecells] at hck
          rw [hduk] at hck
          clear e1 e2 ho2 hf2 hl2 hr9 hg9 ho9 hduk
          go_wp2
          go_ret
          exact (by rw [HRES.out.symm.trans HR.out]; exact ⟨A9, c9, Xk, by rw [List.length_append]; rfl, HOk.out⟩)
        | false =>
          cases bdu with
          | true =>
            have HF : Hid (Sm.finO s1 = ([], s1)) := Lib.hid (by unfold Sm.finO; rw [if_neg]; intro hh; first | exact absurd (HDU.out.2.trans hh.1) (by decide) | exact absurd (HFB.out.trans (decide_eq_true hh.2)) (by decide))
            have HR : Hid (s.openO = (L ++ [s1.saySg 0 0], s1.sayS 0)) := Lib.hid (by rw [HOP.out, HF.out]; unfold Sm.dueO; rw [if_pos HDU.out.1.symm]; simp)
            go_wp2_with fail
            go_quiet (fail)
            obtain ⟨W8, hW8⟩ : ∃ W, W = w1.drewN nq := ⟨_, rfl⟩
            rw [← hW8]
            have HO8 : Hid (OutS w B g vo vi s m W8 (.slice A L.length c) L s1 x1) := Lib.hid (by rw [hW8]; exact HO7.out.grow (st_drewN (Below.refl _ _) _))
            clear hW8 hc hlt1
            have hc11 := HO8.out.o.blk.cell
            have hlt11 := HO8.out.o.blk.lt
            dsimp only [ecells] at hc11
            rw [HX1.out.1, HX1.out.2] at hc11
            have HSAYk := Lib.hid (say95 HO8.out.o 0 (by decide) none 0 0 ([] : List Int) ⟨⟨by simp, fun h => by simp at h⟩, fun x hx => by cases hx⟩ (by omega) HSL.out.2.1)
            obtain ⟨SGk, hSGk⟩ : ∃ SG, sayE x1 s.inn.length 0 ([] : List Int) = SG := ⟨_, rfl⟩
            obtain ⟨Xk, hXk⟩ : ∃ X, sayX x1 ((0 : Nat) + 0 % 2 + 0 / 4 % 2) = X := ⟨_, rfl⟩
            rw [hSGk, hXk] at HSAYk
            have HSGk := Lib.hid hSGk
            have HXk := Lib.hid hXk
            clear hSGk hXk
            go_wp2_with fail
            refine HSAYk.out.mono ?_
            clear hc11 hlt11
            rintro e W5k ⟨A5, c5, rfl, hr5, ho5, hf5⟩
            have HBYk : Hid (Byt SGk.dat) := Lib.hid (by rw [← HSGk.out]; exact (show Byt ([] : List Int) from (fun x hx => by cases hx)))
            obtain ⟨xs', hX1, hX2⟩ := out_step HO8.out.f hgl HO8.out.l hr5 ho5 hf5 HBYk.out HFP.out
            have HX1 := Lib.hid hX1
            have HX2 := Lib.hid hX2
            have hW5k : w.heap.size ≤ W5k.heap.size := (HO8.out.f.trans' hf5).size
            clear hr5 ho5 hf5 hX1 hX2
            unfold sgc
            go_wp2_with (at_builtin; refine wpList_append_row _ rfl (.tmp 112) (.tmp 115) 75 rfl w.heap.size 25 i1 (.agg #[.int .u32 0, .int .u32 0, .int .i64 0, .int .i64 0, .slice none 0 0]) 5 48 Try.underlying75 ii1 hz10 hz11 hz12 rfl (by decide) (.slice A L.length c) L.length xs' rfl HX1.out (W5k.heap.size + 1) (some ⟨W5k.heap.size, 0, none⟩) 1 1 [.int .u32 SGk.seq, .int .u32 SGk.ack, .int .i64 SGk.flags, .int .i64 SGk.window, .slice A5 SGk.dat.length c5] rfl (reads_new W5k #[.int .u32 SGk.seq, .int .u32 SGk.ack, .int .i64 SGk.flags, .int .i64 SGk.window, .slice A5 SGk.dat.length c5] 25 5 rfl) (one5 _ _ _ _ _ _ _) ?d1 ?d2 ?d3 ?_; rotate_left; skip)
            case d1 => unfold maxLen; omega
            case d2 => omega
            case d3 => simp; omega
            intro A9 c9 Wk hr9 hg9 ho9
            obtain ⟨ho2, hf2, hl2⟩ := HX2.out Wk A9 c9 hr9 hg9
            have e1 : SGk = s1.saySg 0 0 := by
              have h9 := tie_saySg HO8.out.tie (by rw [HST1.out]; decide) (by rw [HST1.out]; decide) 0 0
              rw [List.take_zero, HO8.out.sam.inn, HSGk.out] at h9
              exact h9
            have e2 : Xk = sayX x1 ((0 : Nat) : Int) := by rw [← HXk.out]; rfl
            have HOk : Hid (OutS w B g vo vi s m Wk (.slice A9 (L ++ [s1.saySg 0 0]).length c9) (L ++ [s1.saySg 0 0]) (s1.sayS 0) Xk) := Lib.hid (by
              refine ⟨by rw [e2]; exact tie_say HO8.out.tie HNT1.out.1 HNT1.out.2.1 0 (by omega), HO8.out.ok.say (by have := HO8.out.ok.tl; have := HO8.out.ok.nt; omega) (fun h => by rw [HST1.out] at h; omega), HO8.out.sam.say 0, ho2, hf2, ?_⟩
              rw [List.length_append, ← e1]
              exact hl2)
            have hck := HOk.out.o.blk.cell
            have hltk := HOk.out.o.blk.lt
            have hduk : Xk.due = false := by rw [e2]; rfl
            dsimp only [ecells] at hck
            rw [hduk] at hck
            clear e1 e2 ho2 hf2 hl2 hr9 hg9 ho9 hduk
            go_wp2
            go_ret
            exact (by rw [HRES.out.symm.trans HR.out]; exact ⟨A9, c9, Xk, by rw [List.length_append]; rfl, HOk.out⟩)
          | false =>
            have HF : Hid (Sm.finO s1 = ([], s1)) := Lib.hid (by unfold Sm.finO; rw [if_neg]; intro hh; first | exact absurd (HDU.out.2.trans hh.1) (by decide) | exact absurd (HFB.out.trans (decide_eq_true hh.2)) (by decide))
            have HR : Hid (s.openO = (L, s1)) := Lib.hid (by rw [HOP.out, HF.out]; unfold Sm.dueO; rw [if_neg (by rw [← HDU.out.1]; decide)]; simp)
            go_wp2_with fail
            go_quiet (fail)
            obtain ⟨W8, hW8⟩ : ∃ W, W = w1.drewN nq := ⟨_, rfl⟩
            rw [← hW8]
            have HO8 : Hid (OutS w B g vo vi s m W8 (.slice A L.length c) L s1 x1) := Lib.hid (by rw [hW8]; exact HO7.out.grow (st_drewN (Below.refl _ _) _))
            clear hW8 hc hlt1
            have hc11 := HO8.out.o.blk.cell
            have hlt11 := HO8.out.o.blk.lt
            dsimp only [ecells] at hc11
            rw [HX1.out.1, HX1.out.2] at hc11
            go_wp2
            go_ret
            exact (by rw [HRES.out.symm.trans HR.out]; exact ⟨_, _, _, rfl, HO8.out⟩)
      | false =>
        cases bdu with
        | true =>
          have HF : Hid (Sm.finO s1 = ([], s1)) := Lib.hid (by unfold Sm.finO; rw [if_neg]; intro hh; first | exact absurd (HDU.out.2.trans hh.1) (by decide) | exact absurd (HFB.out.trans (decide_eq_true hh.2)) (by decide))
          have HR : Hid (s.openO = (L ++ [s1.saySg 0 0], s1.sayS 0)) := Lib.hid (by rw [HOP.out, HF.out]; unfold Sm.dueO; rw [if_pos HDU.out.1.symm]; simp)
          go_wp2_with fail
          go_quiet (fail)
          obtain ⟨W8, hW8⟩ : ∃ W, W = w1.drewN nq := ⟨_, rfl⟩
          rw [← hW8]
          have HO8 : Hid (OutS w B g vo vi s m W8 (.slice A L.length c) L s1 x1) := Lib.hid (by rw [hW8]; exact HO7.out.grow (st_drewN (Below.refl _ _) _))
          clear hW8 hc hlt1
          have hc11 := HO8.out.o.blk.cell
          have hlt11 := HO8.out.o.blk.lt
          dsimp only [ecells] at hc11
          rw [HX1.out.1, HX1.out.2] at hc11
          have HSAYk := Lib.hid (say95 HO8.out.o 0 (by decide) none 0 0 ([] : List Int) ⟨⟨by simp, fun h => by simp at h⟩, fun x hx => by cases hx⟩ (by omega) HSL.out.2.1)
          obtain ⟨SGk, hSGk⟩ : ∃ SG, sayE x1 s.inn.length 0 ([] : List Int) = SG := ⟨_, rfl⟩
          obtain ⟨Xk, hXk⟩ : ∃ X, sayX x1 ((0 : Nat) + 0 % 2 + 0 / 4 % 2) = X := ⟨_, rfl⟩
          rw [hSGk, hXk] at HSAYk
          have HSGk := Lib.hid hSGk
          have HXk := Lib.hid hXk
          clear hSGk hXk
          go_wp2_with fail
          refine HSAYk.out.mono ?_
          clear hc11 hlt11
          rintro e W5k ⟨A5, c5, rfl, hr5, ho5, hf5⟩
          have HBYk : Hid (Byt SGk.dat) := Lib.hid (by rw [← HSGk.out]; exact (show Byt ([] : List Int) from (fun x hx => by cases hx)))
          obtain ⟨xs', hX1, hX2⟩ := out_step HO8.out.f hgl HO8.out.l hr5 ho5 hf5 HBYk.out HFP.out
          have HX1 := Lib.hid hX1
          have HX2 := Lib.hid hX2
          have hW5k : w.heap.size ≤ W5k.heap.size := (HO8.out.f.trans' hf5).size
          clear hr5 ho5 hf5 hX1 hX2
          unfold sgc
          go_wp2_with (at_builtin; refine wpList_append_row _ rfl (.tmp 112) (.tmp 115) 75 rfl w.heap.size 25 i1 (.agg #[.int .u32 0, .int .u32 0, .int .i64 0, .int .i64 0, .slice none 0 0]) 5 48 Try.underlying75 ii1 hz10 hz11 hz12 rfl (by decide) (.slice A L.length c) L.length xs' rfl HX1.out (W5k.heap.size + 1) (some ⟨W5k.heap.size, 0, none⟩) 1 1 [.int .u32 SGk.seq, .int .u32 SGk.ack, .int .i64 SGk.flags, .int .i64 SGk.window, .slice A5 SGk.dat.length c5] rfl (reads_new W5k #[.int .u32 SGk.seq, .int .u32 SGk.ack, .int .i64 SGk.flags, .int .i64 SGk.window, .slice A5 SGk.dat.length c5] 25 5 rfl) (one5 _ _ _ _ _ _ _) ?d1 ?d2 ?d3 ?_; rotate_left; skip)
          case d1 => unfold maxLen; omega
          case d2 => omega
          case d3 => simp; omega
          intro A9 c9 Wk hr9 hg9 ho9
          obtain ⟨ho2, hf2, hl2⟩ := HX2.out Wk A9 c9 hr9 hg9
          have e1 : SGk = s1.saySg 0 0 := by
            have h9 := tie_saySg HO8.out.tie (by rw [HST1.out]; decide) (by rw [HST1.out]; decide) 0 0
            rw [List.take_zero, HO8.out.sam.inn, HSGk.out] at h9
            exact h9
          have e2 : Xk = sayX x1 ((0 : Nat) : Int) := by rw [← HXk.out]; rfl
          have HOk : Hid (OutS w B g vo vi s m Wk (.slice A9 (L ++ [s1.saySg 0 0]).length c9) (L ++ [s1.saySg 0 0]) (s1.sayS 0) Xk) := Lib.hid (by
            refine ⟨by rw [e2]; exact tie_say HO8.out.tie HNT1.out.1 HNT1.out.2.1 0 (by omega), HO8.out.ok.say (by have := HO8.out.ok.tl; have := HO8.out.ok.nt; omega) (fun h => by rw [HST1.out] at h; omega), HO8.out.sam.say 0, ho2, hf2, ?_⟩
            rw [List.length_append, ← e1]
            exact hl2)
          have hck := HOk.out.o.blk.cell
          have hltk := HOk.out.o.blk.lt
          have hduk : Xk.due = false := by rw [e2]; rfl
          dsimp only [ecells] at hck
          rw [hduk] at hck
          clear e1 e2 ho2 hf2 hl2 hr9 hg9 ho9 hduk
          go_wp2
          go_ret
          exact (by rw [HRES.out.symm.trans HR.out]; exact ⟨A9, c9, Xk, by rw [List.length_append]; rfl, HOk.out⟩)
        | false =>
          have HF : Hid (Sm.finO s1 = ([], s1)) := Lib.hid (by unfold Sm.finO; rw [if_neg]; intro hh; first | exact absurd (HDU.out.2.trans hh.1) (by decide) | exact absurd (HFB.out.trans (decide_eq_true hh.2)) (by decide))
          have HR : Hid (s.openO = (L, s1)) := Lib.hid (by rw [HOP.out, HF.out]; unfold Sm.dueO; rw [if_neg (by rw [← HDU.out.1]; decide)]; simp)
          go_wp2_with fail
          go_quiet (fail)
          obtain ⟨W8, hW8⟩ : ∃ W, W = w1.drewN nq := ⟨_, rfl⟩
          rw [← hW8]
          have HO8 : Hid (OutS w B g vo vi s m W8 (.slice A L.length c) L s1 x1) := Lib.hid (by rw [hW8]; exact HO7.out.grow (st_drewN (Below.refl _ _) _))
          clear hW8 hc hlt1
          have hc11 := HO8.out.o.blk.cell
          have hlt11 := HO8.out.o.blk.lt
          dsimp only [ecells] at hc11
          rw [HX1.out.1, HX1.out.2] at hc11
          go_wp2
          go_ret
          exact (by rw [HRES.out.symm.trans HR.out]; exact ⟨_, _, _, rfl, HO8.out⟩)
/-- P51.6. -/
theorem out50 (h : ESt w B g x vo vi s.out s.inn) (tie : Tie s x) (hB : B ≤ w.heap.size) (hok : s.Ok m) (hm : m ≤ 1000) :
    Calls Try.prog 50 #[.pointer (some ⟨g, 0, none⟩)] w (OutP w B g vo vi s m s.outsO) := by
  unfold Sm.outsO
  by_cases h4 : s.st = 4
  · rw [if_pos h4]
    exact out50_open h tie hB hok hm h4
  · rw [if_neg h4]
    unfold Sm.synO
    by_cases h5 : (s.st = 2 ∨ s.st = 3) ∧ s.nxt = 0
    · rw [if_pos h5]
      exact out50_syn h tie hB hok hm h5.1 (by rw [h5.2]; exact (hok.early (by omega)).1.symm)
    · rw [if_neg h5]
      refine out50_none h tie hB hok hm h4 ?_
      by_cases h6 : s.st = 2 ∨ s.st = 3
      · exact .inr (fun e => h5 ⟨h6, e.trans (hok.early (by omega)).1⟩)
      · exact .inl ⟨fun e => h6 (.inl e), fun e => h6 (.inr e)⟩
end
end Go.Proofs.Ythlhjaacjhlkhaa
