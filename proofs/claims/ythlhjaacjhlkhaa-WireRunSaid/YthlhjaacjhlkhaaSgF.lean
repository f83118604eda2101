/- One end of a stream, the reference: contract of Outs (what is said now). -/
import Derived.Test.YthlhjaacjhlkhaaSgD
import Derived.LoopTactic
namespace Go.Proofs.Ythlhjaacjhlkhaa
open Go.RowKit
set_option maxHeartbeats 400000
set_option linter.unusedVariables false
set_option linter.unusedSimpArgs false
theorem OutR.grow {w W W' : World} {B q m : Nat} {vo vi v : Value} {s s1 : Sm} {L : List Sg} (h : OutR w B q vo vi s m W v L s1) (hb : Below W.heap.size W W') : OutR w B q vo vi s m W' v L s1 :=
  ⟨h.ok, h.sam, Ob2.grow h.o hb, h.f.trans ((Fr.of_grow hb).mono (fun _ _ h => h.elim)) (fun _ _ h => h), h.l.grow hb⟩
theorem OutR.rst {w W : World} {B q m : Nat} {vo vi v : Value} {s s1 : Sm} {L : List Sg} (h : OutR w B q vo vi s m W v L s1) : RSt W B q s1 vo vi := by
  unfold RSt
  rw [h.sam.said, h.sam.got]
  exact h.o
/-- What Outs hands out. -/
def OutRP (w : World) (B q : Nat) (vo vi : Value) (s : Sm) (m : Nat) (r : List Sg × Sm) (e : Ending) (w' : World) : Prop :=
  ∃ A c, e = .returned (.slice A r.1.length c) ∧ OutR w B q vo vi s m w' (.slice A r.1.length c) r.1 r.2
theorem LoopI.nx {s s1 : Sm} {L : List Sg} {f : Nat} (h : LoopI s L s1 f) (hn : s1.nxt - 1 < s.limitN) : L.length < 64 := by
  have := h.n
  have := h.r
  omega
section
variable {w : World} {B q : Nat} {s : Sm} {vo vi : Value} {m : Nat}
set_option maxHeartbeats 8000000 in
set_option maxRecDepth 100000 in
theorem outs51_none (h : RSt w B q s vo vi) (hB : B ≤ w.heap.size) (hok : s.Ok m) (hm : m ≤ 1000) (h4' : s.st ≠ 4) (hno : (s.st ≠ 2 ∧ s.st ≠ 3) ∨ s.nxt ≠ 0) :
    Calls Try.prog 51 #[.pointer (some ⟨q, 0, none⟩)] w (OutRP w B q vo vi s m ([], s)) := by
  have HB := Lib.hid h
  have HOK := Lib.hid hok
  have htop := hok.top_le hm
  have hnt := hok.nt
  have hun := hok.un
  have HTOP : Hid (s.top ≤ 64002 ∧ s.nxt ≤ s.top ∧ s.una ≤ s.nxt) := Lib.hid ⟨htop, hnt, hun⟩
  have HSL : Hid (s.said.length ≤ 64000 ∧ s.got.length ≤ 64000 ∧ s.rd ≤ s.got.length) := Lib.hid ⟨by have := hok.said; omega, by have := hok.got; omega, hok.rd⟩
  have hgl := (Ob2.blk h).lt
  have HFP := Lib.hid (fun k hk => (Ob2.lt h k hk).2)
  have hc := (Ob2.blk h).cell
  have HO0 : Hid (OutR w B q vo vi s m w (.slice none 0 0) [] s) := Lib.hid ⟨hok, Sam.refl s, h, Fr.refl _ _, SgL.nil _ _⟩
  obtain ⟨i1, ii1, hz10, hz11, hz12⟩ := info_parts pseginfo
  obtain ⟨A0, c0, A', c', hvo, hvi, h1, h2, h3, h4⟩ := h.look
  have HVO := Lib.hid hvo
  dsimp only [rcells] at hc
  have hbn : ((s.st == 2) = false ∧ (s.st == 3) = false) ∨ ((s.nxt : Int) == 0) = false := by
    rcases hno with h | h
    · exact .inl ⟨by simpa using h.1, by simpa using h.2⟩
    · exact .inr (by rw [beq_eq_false_iff_ne]; omega)
  have d4 : (s.st != 4) = true := by simpa using h4'
  clear h hok hno h4' htop hnt hun hm hvo hvi
  obtain ⟨b2, hb2⟩ : ∃ b, (s.st == 2) = b := ⟨_, rfl⟩
  obtain ⟨b3, hb3⟩ : ∃ b, (s.st == 3) = b := ⟨_, rfl⟩
  obtain ⟨bn, hbu⟩ : ∃ b, ((s.nxt : Int) == 0) = b := ⟨_, rfl⟩
  rw [hb2, hb3, hbu] at hbn
  have HBN := Lib.hid hbn
  clear hbn
  cases b2 <;> cases b3 <;> cases bn
  all_goals
    first
    | (exfalso; rcases HBN.out with ⟨h8, h9⟩ | h8 <;> first | (cases h8; done) | (cases h9; done))
    | (go_enter Try.func51, Try.ntmps51
       go_wp2
       go_ret
       exact ⟨none, 0, rfl, HO0.out⟩)
set_option maxHeartbeats 8000000 in
set_option maxRecDepth 100000 in
theorem outs51_syn (h : RSt w B q s vo vi) (hB : B ≤ w.heap.size) (hok : s.Ok m) (hm : m ≤ 1000) (hst : s.st = 2 ∨ s.st = 3) (hnx : s.nxt = 0) :
    Calls Try.prog 51 #[.pointer (some ⟨q, 0, none⟩)] w (OutRP w B q vo vi s m ([s.saySg 1 0], s.sayS 1)) := by
  have HB := Lib.hid h
  have HOK := Lib.hid hok
  have htop := hok.top_le hm
  have hnt := hok.nt
  have hun := hok.un
  have HTOP : Hid (s.top ≤ 64002 ∧ s.nxt ≤ s.top ∧ s.una ≤ s.nxt) := Lib.hid ⟨htop, hnt, hun⟩
  have HSL : Hid (s.said.length ≤ 64000 ∧ s.got.length ≤ 64000 ∧ s.rd ≤ s.got.length) := Lib.hid ⟨by have := hok.said; omega, by have := hok.got; omega, hok.rd⟩
  have hgl := (Ob2.blk h).lt
  have HFP := Lib.hid (fun k hk => (Ob2.lt h k hk).2)
  have hc := (Ob2.blk h).cell
  have HO0 : Hid (OutR w B q vo vi s m w (.slice none 0 0) [] s) := Lib.hid ⟨hok, Sam.refl s, h, Fr.refl _ _, SgL.nil _ _⟩
  obtain ⟨i1, ii1, hz10, hz11, hz12⟩ := info_parts pseginfo
  obtain ⟨A0, c0, A', c', hvo, hvi, h1, h2, h3, h4⟩ := h.look
  have HVO := Lib.hid hvo
  dsimp only [rcells] at hc
  have d2 : (s.st == 2) = true ∨ ((s.st == 2) = false ∧ (s.st == 3) = true) := by
    rcases hst with h | h <;> simp [h]
  have d3 : ((s.nxt : Int) == 0) = true := by rw [beq_iff_eq]; omega
  have d4 : (s.st != 4) = true := by simp; omega
  have HNX0 := Lib.hid hnx
  have HST := Lib.hid hst
  have HSAYX : Hid (Calls Try.prog 96 #[.pointer (some ⟨q, 0, none⟩), .int .i64 1, .int .i64 0] w (SayP w B q 66 (rcells (s.sayS 1)) vo vi s.said s.got (s.saySg 1 0))) := Lib.hid (by
    rcases hst with h8 | h8
    · exact rsay_low h hB 1 (by decide) (by omega) (by have := HTOP.out; omega) (by have := HTOP.out; omega) (by have := HSL.out; omega) HSL.out.2.2 1 (by decide)
    · exact rsay_none h hB 1 (by decide) (by omega) (by have := HTOP.out; omega) (by have := HTOP.out; omega) (by have := HSL.out; omega) HSL.out.2.2 1 (by decide))
  clear h hok hst hnx htop hnt hun hm hvo hvi
  rcases d2 with d2 | ⟨d2, d2'⟩
  all_goals
    go_enter Try.func51, Try.ntmps51
    have HSAYa := Lib.hid (HSAYX.out)
    obtain ⟨SGa, hSGa⟩ : ∃ SG, s.saySg 1 0 = SG := ⟨_, rfl⟩
    rw [hSGa] at HSAYa
    have HSGa := Lib.hid hSGa
    clear hSGa
    go_wp2_with fail
    refine HSAYa.out.mono ?_
    rintro e W5a ⟨A5, c5, rfl, hr5, ho5, hf5⟩
    have HBYa : Hid (Byt SGa.dat) := Lib.hid (by rw [← HSGa.out]; exact (fun x hx => by cases hx))
    obtain ⟨xs', hX1, hX2⟩ := out_step HO0.out.f hgl HO0.out.l hr5 ho5 hf5 HBYa.out HFP.out
    have HX1 := Lib.hid hX1
    have HX2 := Lib.hid hX2
    have hW5a : w.heap.size ≤ W5a.heap.size := (HO0.out.f.trans' hf5).size
    clear hr5 ho5 hf5 hX1 hX2
    unfold sgc
    go_wp2_with (at_builtin; refine wpList_append_row _ rfl (.tmp 25) (.tmp 28) 75 rfl w.heap.size 25 i1 (.agg #[.int .u32 0, .int .u32 0, .int .i64 0, .int .i64 0, .slice none 0 0]) 5 48 Try.underlying75 ii1 hz10 hz11 hz12 rfl (by decide) (.slice none 0 0) ([] : List Sg).length xs' rfl HX1.out (W5a.heap.size + 1) (some ⟨W5a.heap.size, 0, none⟩) 1 1 [.int .u32 SGa.seq, .int .u32 SGa.ack, .int .i64 SGa.flags, .int .i64 SGa.window, .slice A5 SGa.dat.length c5] rfl (reads_new W5a #[.int .u32 SGa.seq, .int .u32 SGa.ack, .int .i64 SGa.flags, .int .i64 SGa.window, .slice A5 SGa.dat.length c5] 25 5 rfl) (one5 _ _ _ _ _ _ _) ?d1 ?d2 ?d3 ?_; rotate_left; skip)
    case d1 => simp [maxLen]
    case d2 => simp
    case d3 => simp; omega
    intro A9 c9 Wa hr9 hg9 ho9
    obtain ⟨ho2, hf2, hl2⟩ := HX2.out Wa A9 c9 hr9 hg9
    have HOa : Hid (OutR w B q vo vi s m Wa (.slice A9 (([] : List Sg) ++ [SGa]).length c9) (([] : List Sg) ++ [SGa]) (s.sayS 1)) := Lib.hid (by
      rw [HO0.out.sam.said, HO0.out.sam.got] at ho2
      refine ⟨HOK.out.say (by have := HOK.out.tl; have := HNX0.out; omega) (fun _ => by have := HNX0.out; omega), HO0.out.sam.say _, ho2, hf2, ?_⟩
      rw [List.length_append]
      exact hl2)
    clear ho2 hf2 hl2 hr9 hg9 ho9
    have hca := HOa.out.o.blk.cell
    have hlta := HOa.out.o.blk.lt
    dsimp only [rcells, Sm.sayS] at hca
    go_wp2
    go_ret
    exact ⟨A9, c9, rfl, by rw [← HSGa.out] at HOa; exact HOa.out⟩
set_option maxHeartbeats 8000000 in
set_option maxRecDepth 100000 in
theorem outs51_open (h : RSt w B q s vo vi) (hB : B ≤ w.heap.size) (hok : s.Ok m) (hm : m ≤ 1000) (hst : s.st = 4) :
    Calls Try.prog 51 #[.pointer (some ⟨q, 0, none⟩)] w (OutRP w B q vo vi s m s.openO) := by
  have HB := Lib.hid h
  have HOK := Lib.hid hok
  have htop := hok.top_le hm
  have hnt := hok.nt
  have hun := hok.un
  have HTOP : Hid (s.top ≤ 64002 ∧ s.nxt ≤ s.top ∧ s.una ≤ s.nxt) := Lib.hid ⟨htop, hnt, hun⟩
  have HSL : Hid (s.said.length ≤ 64000 ∧ s.got.length ≤ 64000 ∧ s.rd ≤ s.got.length) := Lib.hid ⟨by have := hok.said; omega, by have := hok.got; omega, hok.rd⟩
  have hgl := (Ob2.blk h).lt
  have HFP := Lib.hid (fun k hk => (Ob2.lt h k hk).2)
  have hc := (Ob2.blk h).cell
  have HO0 : Hid (OutR w B q vo vi s m w (.slice none 0 0) [] s) := Lib.hid ⟨hok, Sam.refl s, h, Fr.refl _ _, SgL.nil _ _⟩
  obtain ⟨i1, ii1, hz10, hz11, hz12⟩ := info_parts pseginfo
  obtain ⟨A0, c0, A', c', hvo, hvi, h1, h2, h3, h4⟩ := h.look
  have HVO := Lib.hid hvo
  dsimp only [rcells] at hc
  have d2 : (s.st == 2) = false := by rw [hst]; rfl
  have d3 : (s.st == 3) = false := by rw [hst]; rfl
  have d4 : (s.st != 4) = false := by rw [hst]; rfl
  have HS4 := Lib.hid hst
  obtain ⟨ak, hak⟩ : ∃ ak, s.acked = ak := ⟨_, rfl⟩
  have hakl : ak ≤ s.said.length := by rw [← hak]; exact s.acked_le
  have HACK := Lib.hid (fun x : Near w.heap.size w => racked (s := s) (Ob2.grow h x.prop) (by omega) (by have := HSL.out.1; omega))
  have HACK2 := Lib.hid (fun W (hb : Below w.heap.size w W) => racked (s := s) (Ob2.grow h hb) (by omega) (by have := HSL.out.1; omega))
  rw [hak] at HACK HACK2
  obtain ⟨lim, hlim0⟩ : ∃ lim, s.limitN = lim := ⟨_, rfl⟩
  have HLIM := Lib.hid hlim0
  have hpr := hok.peer
  have hlimv : lim = min (ak + max s.peer.toNat 1) s.said.length := by rw [← hlim0, ← hak]; rfl
  have HSTART : Hid (s.limitN - (s.nxt - 1) ≤ 64) := Lib.hid (by
    have h8 := s.limit_le
    have h9 : s.acked = min (s.una - 1) s.said.length := rfl
    have := hok.room
    omega)
  have hsl := HSL.out.1
  have hlb : lim ≤ 64000 := by omega
  obtain ⟨RES, hRES⟩ : ∃ r, s.openO = r := ⟨_, rfl⟩
  rw [hRES]
  have HRES := Lib.hid hRES
  have HWAY : Hid (∃ pv : Int, ((decide (s.peer < 1) = true ∧ pv = 1) ∨ (decide (s.peer < 1) = false ∧ pv = s.peer)) ∧ ((decide ((s.said.length : Int) < ak + pv) = true ∧ s.said.length = lim) ∨ (decide ((s.said.length : Int) < ak + pv) = false ∧ (ak : Int) + pv = lim))) := Lib.hid (by
    by_cases h8 : s.peer < 1
    · refine ⟨1, .inl ⟨by simpa using h8, rfl⟩, ?_⟩
      by_cases h9 : (s.said.length : Int) < ak + 1
      · exact .inl ⟨by simpa using h9, by omega⟩
      · exact .inr ⟨by simpa using h9, by omega⟩
    · refine ⟨s.peer, .inr ⟨by simpa using h8, rfl⟩, ?_⟩
      by_cases h9 : (s.said.length : Int) < ak + s.peer
      · exact .inl ⟨by simpa using h9, by omega⟩
      · exact .inr ⟨by simpa using h9, by omega⟩)
  clear h hok hst htop hnt hun hm hvo hvi hlim0 hRES hlimv hak
  obtain ⟨pv, hw1, hw2⟩ := HWAY.out
  have hpv : 0 ≤ pv ∧ pv ≤ 255 := by rcases hw1 with h8 | h8 <;> omega
  rcases hw1 with ⟨e1, rfl⟩ | ⟨e1, rfl⟩ <;> rcases hw2 with ⟨e2, hL⟩ | ⟨e2, hL⟩
  all_goals
    have HL9 := Lib.hid hL
    clear hL
    go_enter Try.func51, Try.ntmps51
    go_upto_region 6 with fail
    refine wp_region_near w.heap.size (by kernel_rfl) (by kernel_rfl) ?_
    repeat (go_big_quiet_step (first | (go_at_call 94; exact Calls.near_same (HACK.out _))))
    refine wpQuiet_nil ?_
    intro W hbW
    have HO00 := Lib.hid (HO0.out.grow hbW)
    have HBW := Lib.hid hbW
    clear hbW hc HO0
    have hc := HO00.out.o.blk.cell
    have hlt0 := HO00.out.o.blk.lt
    dsimp only [rcells] at hc
    rw [HVO.out] at hc
    go_wp2_with (go_at_call 94; refine (HACK2.out _ HBW.out).mono ?_; rintro e W9 ⟨rfl, rfl⟩)
    try rw [HL9.out]
    clear hc hlt0 d2 d3 d4 e1 e2
    go_loopw [3] (fun v wr => ∃ L s1 A c f, v = .slice A L.length c ∧ OutR w B q vo vi s m wr (.slice A L.length c) L s1 ∧ LoopI s L s1 f) (fun v _ => 64 - lenOf v)
    case atStart => exact ⟨[], s, none, 0, 64, rfl, HO00.out, LoopI.start s HSTART.out⟩
    case round =>
      clear HO00
      obtain ⟨L, s1, A, c, f, rfl, hO, hI⟩ := hrel
      have HO := Lib.hid hO
      have HI := Lib.hid hI
      have hst1 : s1.st = 4 := hO.sam.st.trans HS4.out
      have hla := hO.ok.late hst1
      have hun1 := hO.ok.un
      have hnt1 := hO.ok.nt
      have htl1 := hO.ok.tl
      have hsd := hO.sam.said
      have hsl := HSL.out.1
      rw [← hsd] at hsl
      have hLn := hI.n
      have hlim : s.limitN = lim := HLIM.out
      have hlims : lim ≤ s1.said.length := by rw [hsd, ← hlim]; exact s.limit_le
      obtain ⟨kn, hkn⟩ : ∃ kn, s1.nxt = kn + 1 := ⟨s1.nxt - 1, by omega⟩
      have hk1 : (s1.nxt : Int) - 1 = kn := by omega
      have hknb : kn ≤ 64002 := by omega
      have HKN := Lib.hid hkn
      have HST1 := Lib.hid hst1
      have HSD := Lib.hid hsd
      have HNT1 : Hid (s1.top ≤ 1000000 ∧ s1.nxt ≤ s1.top ∧ 1 ≤ s1.nxt) := Lib.hid ⟨by omega, hnt1, by omega⟩
      have hc := hO.o.blk.cell
      have hlt1 := hO.o.blk.lt
      dsimp only [rcells] at hc
      rw [HVO.out] at hc
      have hLl : L.length ≤ 64 := by omega
      by_cases hlt : s1.nxt - 1 < lim
      · skip
        have HLT := Lib.hid hlt
        obtain ⟨qn, hqn⟩ : ∃ qn : Nat, (lim : Int) - kn = qn := ⟨lim - kn, by omega⟩
        have hlt9 : kn < lim := by omega
        have hLl2 : L.length < 64 := HI.out.nx (by rw [HLIM.out]; exact hlt)
        obtain ⟨n, hn⟩ : ∃ n, min 32 (lim - (s1.nxt - 1)) = n := ⟨_, rfl⟩
        have HN := Lib.hid hn
        have hn1 : 0 < n := by omega
        have hn32 : n ≤ 32 := by omega
        have hle : kn + n ≤ s1.said.length := by omega
        have h32 : (32 < qn ∧ 32 = n) ∨ (¬ 32 < qn ∧ qn = n) := by
          by_cases h8 : 32 < qn
          · exact .inl ⟨h8, by omega⟩
          · exact .inr ⟨h8, by omega⟩
        clear hO hI hst1 hla hun1 hnt1 htl1 hsd hsl hLn hlim
        clear hlt hn hlims hkn
        rcases h32 with ⟨h32, hqq⟩ | ⟨h32, hqq⟩
        · subst hqq
          have HSAYb := Lib.hid (rsay_some HO.out.rst (Nat.le_trans hB HO.out.f.size) 0 (by decide) 32 hn1 hn32 kn HKN.out hle (by rw [HSD.out]; have := HSL.out.1; omega) (by rw [HST1.out]; decide) (by have := HNT1.out; omega) (by have := HNT1.out; omega) (by rw [HO.out.sam.got]; have := HSL.out; omega) (by rw [HO.out.sam.got, HO.out.sam.rd]; exact HSL.out.2.2) 32 (by omega))
          obtain ⟨SGb, hSGb⟩ : ∃ SG, s1.saySg 0 32 = SG := ⟨_, rfl⟩
          rw [hSGb] at HSAYb
          have HSGb := Lib.hid hSGb
          clear hSGb
          go_wp2_with fail
          refine HSAYb.out.mono ?_
          clear hc hlt1 hlt9 hk1 hqn h32
          rintro e W5b ⟨A5, c5, rfl, hr5, ho5, hf5⟩
          have HBYb : Hid (Byt SGb.dat) := Lib.hid (by rw [← HSGb.out]; exact (byt_take (byt_drop HO.out.ok.bs _) _))
          obtain ⟨xs', hX1, hX2⟩ := out_step HO.out.f hgl HO.out.l hr5 ho5 hf5 HBYb.out HFP.out
          have HX1 := Lib.hid hX1
          have HX2 := Lib.hid hX2
          have hW5b : w.heap.size ≤ W5b.heap.size := (HO.out.f.trans' hf5).size
          clear hr5 ho5 hf5 hX1 hX2
          unfold sgc
          go_wp2_with (at_builtin; refine wpList_append_row _ rfl (.tmp 79) (.tmp 83) 75 rfl w.heap.size 25 i1 (.agg #[.int .u32 0, .int .u32 0, .int .i64 0, .int .i64 0, .slice none 0 0]) 5 48 Try.underlying75 ii1 hz10 hz11 hz12 rfl (by decide) (.slice A L.length c) L.length xs' rfl HX1.out (W5b.heap.size + 1) (some ⟨W5b.heap.size, 0, none⟩) 1 1 [.int .u32 SGb.seq, .int .u32 SGb.ack, .int .i64 SGb.flags, .int .i64 SGb.window, .slice A5 SGb.dat.length c5] rfl (reads_new W5b #[.int .u32 SGb.seq, .int .u32 SGb.ack, .int .i64 SGb.flags, .int .i64 SGb.window, .slice A5 SGb.dat.length c5] 25 5 rfl) (one5 _ _ _ _ _ _ _) ?d1 ?d2 ?d3 ?_; rotate_left; skip)
          case d1 => unfold maxLen; omega
          case d2 => omega
          case d3 => simp; omega
          intro A9 c9 Wb hr9 hg9 ho9
          obtain ⟨ho2, hf2, hl2⟩ := HX2.out Wb A9 c9 hr9 hg9
          have HOb : Hid (OutR w B q vo vi s m Wb (.slice A9 (L ++ [SGb]).length c9) (L ++ [SGb]) (s1.sayS 32)) := Lib.hid (by
            rw [HO.out.sam.said, HO.out.sam.got] at ho2
            refine ⟨HO.out.ok.say (by have h1 := HKN.out; omega) (fun h => by rw [HST1.out] at h; omega), HO.out.sam.say _, ho2, hf2, ?_⟩
            rw [List.length_append]
            exact hl2)
          clear ho2 hf2 hl2 hr9 hg9 ho9
          obtain ⟨f', hI2⟩ := HI.out.step (by rw [HLIM.out]; exact HLT.out) HNT1.out.2.2
          rw [HLIM.out, HN.out, HSGb.out] at hI2
          have HI2 := Lib.hid hI2
          clear hI2
          go_wp2
          go_roundw
          case rel => exact ⟨L ++ [SGb], s1.sayS _, A9, c9, f', by rw [List.length_append]; rfl, HOb.out, HI2.out⟩
          case measure => simp [lenOf]; omega
        · subst hqq
          have HSAYb := Lib.hid (rsay_some HO.out.rst (Nat.le_trans hB HO.out.f.size) 0 (by decide) qn hn1 hn32 kn HKN.out hle (by rw [HSD.out]; have := HSL.out.1; omega) (by rw [HST1.out]; decide) (by have := HNT1.out; omega) (by have := HNT1.out; omega) (by rw [HO.out.sam.got]; have := HSL.out; omega) (by rw [HO.out.sam.got, HO.out.sam.rd]; exact HSL.out.2.2) qn (by omega))
          obtain ⟨SGb, hSGb⟩ : ∃ SG, s1.saySg 0 qn = SG := ⟨_, rfl⟩
          rw [hSGb] at HSAYb
          have HSGb := Lib.hid hSGb
          clear hSGb
          go_wp2_with fail
          refine HSAYb.out.mono ?_
          clear hc hlt1 hlt9 hk1 hqn h32
          rintro e W5b ⟨A5, c5, rfl, hr5, ho5, hf5⟩
          have HBYb : Hid (Byt SGb.dat) := Lib.hid (by rw [← HSGb.out]; exact (byt_take (byt_drop HO.out.ok.bs _) _))
          obtain ⟨xs', hX1, hX2⟩ := out_step HO.out.f hgl HO.out.l hr5 ho5 hf5 HBYb.out HFP.out
          have HX1 := Lib.hid hX1
          have HX2 := Lib.hid hX2
          have hW5b : w.heap.size ≤ W5b.heap.size := (HO.out.f.trans' hf5).size
          clear hr5 ho5 hf5 hX1 hX2
          unfold sgc
          go_wp2_with (at_builtin; refine wpList_append_row _ rfl (.tmp 79) (.tmp 83) 75 rfl w.heap.size 25 i1 (.agg #[.int .u32 0, .int .u32 0, .int .i64 0, .int .i64 0, .slice none 0 0]) 5 48 Try.underlying75 ii1 hz10 hz11 hz12 rfl (by decide) (.slice A L.length c) L.length xs' rfl HX1.out (W5b.heap.size + 1) (some ⟨W5b.heap.size, 0, none⟩) 1 1 [.int .u32 SGb.seq, .int .u32 SGb.ack, .int .i64 SGb.flags, .int .i64 SGb.window, .slice A5 SGb.dat.length c5] rfl (reads_new W5b #[.int .u32 SGb.seq, .int .u32 SGb.ack, .int .i64 SGb.flags, .int .i64 SGb.window, .slice A5 SGb.dat.length c5] 25 5 rfl) (one5 _ _ _ _ _ _ _) ?d1 ?d2 ?d3 ?_; rotate_left; skip)
          case d1 => unfold maxLen; omega
          case d2 => omega
          case d3 => simp; omega
          intro A9 c9 Wb hr9 hg9 ho9
          obtain ⟨ho2, hf2, hl2⟩ := HX2.out Wb A9 c9 hr9 hg9
          have HOb : Hid (OutR w B q vo vi s m Wb (.slice A9 (L ++ [SGb]).length c9) (L ++ [SGb]) (s1.sayS qn)) := Lib.hid (by
            rw [HO.out.sam.said, HO.out.sam.got] at ho2
            refine ⟨HO.out.ok.say (by have h1 := HKN.out; omega) (fun h => by rw [HST1.out] at h; omega), HO.out.sam.say _, ho2, hf2, ?_⟩
            rw [List.length_append]
            exact hl2)
          clear ho2 hf2 hl2 hr9 hg9 ho9
          obtain ⟨f', hI2⟩ := HI.out.step (by rw [HLIM.out]; exact HLT.out) HNT1.out.2.2
          rw [HLIM.out, HN.out, HSGb.out] at hI2
          have HI2 := Lib.hid hI2
          clear hI2
          go_wp2
          go_roundw
          case rel => exact ⟨L ++ [SGb], s1.sayS _, A9, c9, f', by rw [List.length_append]; rfl, HOb.out, HI2.out⟩
          case measure => simp [lenOf]; omega
      · skip
        have hlt9 : ¬ kn < lim := by omega
        have HD := Lib.hid (hI.done (by rw [HLIM.out]; exact hlt))
        have HFB : Hid (((kn : Int) == s.said.length) = decide (s1.nxt - 1 = s1.said.length)) := Lib.hid (by rw [Bool.eq_iff_iff, beq_iff_eq, decide_eq_true_eq, hsd]; omega)
        clear hO hI hst1 hla hun1 hnt1 htl1 hsd hsl hLn hlim
        clear hlt hkn hlims
        obtain ⟨bsh, hbsh⟩ : ∃ b, s1.shut = b := ⟨_, rfl⟩
        obtain ⟨bdu, hbdu⟩ : ∃ b, s1.due = b := ⟨_, rfl⟩
        obtain ⟨ban, hban⟩ : ∃ b, ((kn : Int) == s.said.length) = b := ⟨_, rfl⟩
        rw [hbsh, hbdu] at hc
        rw [hban] at HFB
        have HDU : Hid (s1.due = bdu ∧ s1.shut = bsh) := Lib.hid ⟨hbdu, hbsh⟩
        have HOP : Hid (s.openO = (L ++ (Sm.finO s1).1 ++ (Sm.dueO (Sm.finO s1).2).1, (Sm.dueO (Sm.finO s1).2).2)) := Lib.hid (by unfold Sm.openO; rw [HD.out])
        clear hbsh hbdu
        cases bsh with
        | true =>
          cases ban with
          | true =>
            have HR : Hid (s.openO = (L ++ [s1.saySg 4 0], s1.sayS 1)) := Lib.hid (by rw [HOP.out]; have hf : Sm.finO s1 = ([s1.saySg 4 0], s1.sayS 1) := (by unfold Sm.finO; rw [if_pos ⟨HDU.out.2, of_decide_eq_true HFB.out.symm⟩]); rw [hf]; unfold Sm.dueO; rw [if_neg (show ¬ (s1.sayS 1).due = true from by show ¬ false = true; decide)]; simp)
            go_wp2_with fail
            go_quiet (fail)
            obtain ⟨W8, hW8⟩ : ∃ W, W = wr.drewN nq := ⟨_, rfl⟩
            rw [← hW8]
            have HO8 : Hid (OutR w B q vo vi s m W8 (.slice A L.length c) L s1) := Lib.hid (by rw [hW8]; exact HO.out.grow (st_drewN (Below.refl _ _) _))
            clear hW8 hc hlt1
            have hc11 := HO8.out.o.blk.cell
            have hlt11 := HO8.out.o.blk.lt
            dsimp only [rcells] at hc11
            rw [HDU.out.1, HDU.out.2] at hc11
            have HSAYk := Lib.hid (rsay_none HO8.out.rst (Nat.le_trans hB HO8.out.f.size) 4 (by decide) (by rw [HST1.out]; decide) (by have := HNT1.out; omega) (by have := HNT1.out; omega) (by rw [HO.out.sam.got]; have := HSL.out; omega) (by rw [HO.out.sam.got, HO.out.sam.rd]; exact HSL.out.2.2) 1 (by decide))
            obtain ⟨SGk, hSGk⟩ : ∃ SG, s1.saySg 4 0 = SG := ⟨_, rfl⟩
            rw [hSGk] at HSAYk
            have HSGk := Lib.hid hSGk
            clear hSGk
            go_wp2_with fail
            refine HSAYk.out.mono ?_
            clear hc11 hlt11
            rintro e W5k ⟨A5, c5, rfl, hr5, ho5, hf5⟩
            have HBYk : Hid (Byt SGk.dat) := Lib.hid (by rw [← HSGk.out]; exact (fun x hx => by cases hx))
            obtain ⟨xs', hX1, hX2⟩ := out_step HO8.out.f hgl HO8.out.l hr5 ho5 hf5 HBYk.out HFP.out
            have HX1 := Lib.hid hX1
            have HX2 := Lib.hid hX2
            have hW5k : w.heap.size ≤ W5k.heap.size := (HO8.out.f.trans' hf5).size
            clear hr5 ho5 hf5 hX1 hX2
            unfold sgc
            go_wp2_with (at_builtin; refine wpList_append_row _ rfl (.tmp 102) (.tmp 105) 75 rfl w.heap.size 25 i1 (.agg #[.int .u32 0, .int .u32 0, .int .i64 0, .int .i64 0, .slice none 0 0]) 5 48 Try.underlying75 ii1 hz10 hz11 hz12 rfl (by decide) (.slice A L.length c) L.length xs' rfl HX1.out (W5k.heap.size + 1) (some ⟨W5k.heap.size, 0, none⟩) 1 1 [.int .u32 SGk.seq, .int .u32 SGk.ack, .int .i64 SGk.flags, .int .i64 SGk.window, .slice A5 SGk.dat.length c5] rfl (reads_new W5k #[.int .u32 SGk.seq, .int .u32 SGk.ack, .int .i64 SGk.flags, .int .i64 SGk.window, .slice A5 SGk.dat.length c5] 25 5 rfl) (one5 _ _ _ _ _ _ _) ?d1 ?d2 ?d3 ?_; rotate_left; skip)
            case d1 => unfold maxLen; omega
            case d2 => omega
            case d3 => simp; omega
            intro A9 c9 Wk hr9 hg9 ho9
            obtain ⟨ho2, hf2, hl2⟩ := HX2.out Wk A9 c9 hr9 hg9
            have HOk : Hid (OutR w B q vo vi s m Wk (.slice A9 (L ++ [SGk]).length c9) (L ++ [SGk]) (s1.sayS 1)) := Lib.hid (by
              rw [HO8.out.sam.said, HO8.out.sam.got] at ho2
              refine ⟨HO8.out.ok.say (by have h8 := of_decide_eq_true HFB.out.symm; have := HNT1.out.2.2; omega) (fun h => by rw [HST1.out] at h; omega), HO8.out.sam.say _, ho2, hf2, ?_⟩
              rw [List.length_append]
              exact hl2)
            clear ho2 hf2 hl2 hr9 hg9 ho9
            have hck := HOk.out.o.blk.cell
            have hltk := HOk.out.o.blk.lt
            dsimp only [rcells, Sm.sayS] at hck
            go_wp2
            go_ret
            exact (by rw [HRES.out.symm.trans HR.out]; exact ⟨A9, c9, by rw [List.length_append]; rfl, by rw [← HSGk.out] at HOk; exact HOk.out⟩)
          | false =>
            cases bdu with
            | true =>
              have HF : Hid (Sm.finO s1 = ([], s1)) := Lib.hid (by unfold Sm.finO; rw [if_neg]; intro hh; first | exact absurd (HDU.out.2.symm.trans hh.1) (by decide) | exact absurd (HFB.out.trans (decide_eq_true hh.2)) (by decide))
              have HR : Hid (s.openO = (L ++ [s1.saySg 0 0], s1.sayS 0)) := Lib.hid (by rw [HOP.out, HF.out]; unfold Sm.dueO; rw [if_pos HDU.out.1]; simp)
              go_wp2_with fail
              go_quiet (fail)
              obtain ⟨W8, hW8⟩ : ∃ W, W = wr.drewN nq := ⟨_, rfl⟩
              rw [← hW8]
              have HO8 : Hid (OutR w B q vo vi s m W8 (.slice A L.length c) L s1) := Lib.hid (by rw [hW8]; exact HO.out.grow (st_drewN (Below.refl _ _) _))
              clear hW8 hc hlt1
              have hc11 := HO8.out.o.blk.cell
              have hlt11 := HO8.out.o.blk.lt
              dsimp only [rcells] at hc11
              rw [HDU.out.1, HDU.out.2] at hc11
              have HSAYk := Lib.hid (rsay_none HO8.out.rst (Nat.le_trans hB HO8.out.f.size) 0 (by decide) (by rw [HST1.out]; decide) (by have := HNT1.out; omega) (by have := HNT1.out; omega) (by rw [HO.out.sam.got]; have := HSL.out; omega) (by rw [HO.out.sam.got, HO.out.sam.rd]; exact HSL.out.2.2) 0 (by decide))
              obtain ⟨SGk, hSGk⟩ : ∃ SG, s1.saySg 0 0 = SG := ⟨_, rfl⟩
              rw [hSGk] at HSAYk
              have HSGk := Lib.hid hSGk
              clear hSGk
              go_wp2_with fail
              refine HSAYk.out.mono ?_
              clear hc11 hlt11
              rintro e W5k ⟨A5, c5, rfl, hr5, ho5, hf5⟩
              have HBYk : Hid (Byt SGk.dat) := Lib.hid (by rw [← HSGk.out]; exact (fun x hx => by cases hx))
              obtain ⟨xs', hX1, hX2⟩ := out_step HO8.out.f hgl HO8.out.l hr5 ho5 hf5 HBYk.out HFP.out
              have HX1 := Lib.hid hX1
              have HX2 := Lib.hid hX2
              have hW5k : w.heap.size ≤ W5k.heap.size := (HO8.out.f.trans' hf5).size
              clear hr5 ho5 hf5 hX1 hX2
              unfold sgc
              go_wp2_with (at_builtin; refine wpList_append_row _ rfl (.tmp 111) (.tmp 114) 75 rfl w.heap.size 25 i1 (.agg #[.int .u32 0, .int .u32 0, .int .i64 0, .int .i64 0, .slice none 0 0]) 5 48 Try.underlying75 ii1 hz10 hz11 hz12 rfl (by decide) (.slice A L.length c) L.length xs' rfl HX1.out (W5k.heap.size + 1) (some ⟨W5k.heap.size, 0, none⟩) 1 1 [.int .u32 SGk.seq, .int .u32 SGk.ack, .int .i64 SGk.flags, .int .i64 SGk.window, .slice A5 SGk.dat.length c5] rfl (reads_new W5k #[.int .u32 SGk.seq, .int .u32 SGk.ack, .int .i64 SGk.flags, .int .i64 SGk.window, .slice A5 SGk.dat.length c5] 25 5 rfl) (one5 _ _ _ _ _ _ _) ?d1 ?d2 ?d3 ?_; rotate_left; skip)
              case d1 => unfold maxLen; omega
              case d2 => omega
              case d3 => simp; omega
              intro A9 c9 Wk hr9 hg9 ho9
              obtain ⟨ho2, hf2, hl2⟩ := HX2.out Wk A9 c9 hr9 hg9
              have HOk : Hid (OutR w B q vo vi s m Wk (.slice A9 (L ++ [SGk]).length c9) (L ++ [SGk]) (s1.sayS 0)) := Lib.hid (by
                rw [HO8.out.sam.said, HO8.out.sam.got] at ho2
                refine ⟨HO8.out.ok.say (by have := HO8.out.ok.tl; have := HO8.out.ok.nt; omega) (fun h => by rw [HST1.out] at h; omega), HO8.out.sam.say _, ho2, hf2, ?_⟩
                rw [List.length_append]
                exact hl2)
              clear ho2 hf2 hl2 hr9 hg9 ho9
              have hck := HOk.out.o.blk.cell
              have hltk := HOk.out.o.blk.lt
              dsimp only [rcells, Sm.sayS] at hck
              go_wp2
              go_ret
              exact (by rw [HRES.out.symm.trans HR.out]; exact ⟨A9, c9, by rw [List.length_append]; rfl, by rw [← HSGk.out] at HOk; exact HOk.out⟩)
            | false =>
              have HF : Hid (Sm.finO s1 = ([], s1)) := Lib.hid (by unfold Sm.finO; rw [if_neg]; intro hh; first | exact absurd (HDU.out.2.symm.trans hh.1) (by decide) | exact absurd (HFB.out.trans (decide_eq_true hh.2)) (by decide))
              have HR : Hid (s.openO = (L, s1)) := Lib.hid (by rw [HOP.out, HF.out]; unfold Sm.dueO; rw [if_neg (by rw [HDU.out.1]; decide)]; simp)
              go_wp2_with fail
              go_quiet (fail)
              obtain ⟨W8, hW8⟩ : ∃ W, W = wr.drewN nq := ⟨_, rfl⟩
              rw [← hW8]
              have HO8 : Hid (OutR w B q vo vi s m W8 (.slice A L.length c) L s1) := Lib.hid (by rw [hW8]; exact HO.out.grow (st_drewN (Below.refl _ _) _))
              clear hW8 hc hlt1
              have hc11 := HO8.out.o.blk.cell
              have hlt11 := HO8.out.o.blk.lt
              dsimp only [rcells] at hc11
              rw [HDU.out.1, HDU.out.2] at hc11
              go_wp2
              go_ret
              exact (by rw [HRES.out.symm.trans HR.out]; exact ⟨_, _, rfl, HO8.out⟩)
        | false =>
          cases bdu with
          | true =>
            have HF : Hid (Sm.finO s1 = ([], s1)) := Lib.hid (by unfold Sm.finO; rw [if_neg]; intro hh; first | exact absurd (HDU.out.2.symm.trans hh.1) (by decide) | exact absurd (HFB.out.trans (decide_eq_true hh.2)) (by decide))
            have HR : Hid (s.openO = (L ++ [s1.saySg 0 0], s1.sayS 0)) := Lib.hid (by rw [HOP.out, HF.out]; unfold Sm.dueO; rw [if_pos HDU.out.1]; simp)
            go_wp2_with fail
            go_quiet (fail)
            obtain ⟨W8, hW8⟩ : ∃ W, W = wr.drewN nq := ⟨_, rfl⟩
            rw [← hW8]
            have HO8 : Hid (OutR w B q vo vi s m W8 (.slice A L.length c) L s1) := Lib.hid (by rw [hW8]; exact HO.out.grow (st_drewN (Below.refl _ _) _))
            clear hW8 hc hlt1
            have hc11 := HO8.out.o.blk.cell
            have hlt11 := HO8.out.o.blk.lt
            dsimp only [rcells] at hc11
            rw [HDU.out.1, HDU.out.2] at hc11
            have HSAYk := Lib.hid (rsay_none HO8.out.rst (Nat.le_trans hB HO8.out.f.size) 0 (by decide) (by rw [HST1.out]; decide) (by have := HNT1.out; omega) (by have := HNT1.out; omega) (by rw [HO.out.sam.got]; have := HSL.out; omega) (by rw [HO.out.sam.got, HO.out.sam.rd]; exact HSL.out.2.2) 0 (by decide))
            obtain ⟨SGk, hSGk⟩ : ∃ SG, s1.saySg 0 0 = SG := ⟨_, rfl⟩
            rw [hSGk] at HSAYk
            have HSGk := Lib.hid hSGk
            clear hSGk
            go_wp2_with fail
            refine HSAYk.out.mono ?_
            clear hc11 hlt11
            rintro e W5k ⟨A5, c5, rfl, hr5, ho5, hf5⟩
            have HBYk : Hid (Byt SGk.dat) := Lib.hid (by rw [← HSGk.out]; exact (fun x hx => by cases hx))
            obtain ⟨xs', hX1, hX2⟩ := out_step HO8.out.f hgl HO8.out.l hr5 ho5 hf5 HBYk.out HFP.out
            have HX1 := Lib.hid hX1
            have HX2 := Lib.hid hX2
            have hW5k : w.heap.size ≤ W5k.heap.size := (HO8.out.f.trans' hf5).size
            clear hr5 ho5 hf5 hX1 hX2
            unfold sgc
            go_wp2_with (at_builtin; refine wpList_append_row _ rfl (.tmp 111) (.tmp 114) 75 rfl w.heap.size 25 i1 (.agg #[.int .u32 0, .int .u32 0, .int .i64 0, .int .i64 0, .slice none 0 0]) 5 48 Try.underlying75 ii1 hz10 hz11 hz12 rfl (by decide) (.slice A L.length c) L.length xs' rfl HX1.out (W5k.heap.size + 1) (some ⟨W5k.heap.size, 0, none⟩) 1 1 [.int .u32 SGk.seq, .int .u32 SGk.ack, .int .i64 SGk.flags, .int .i64 SGk.window, .slice A5 SGk.dat.length c5] rfl (reads_new W5k #[.int .u32 SGk.seq, .int .u32 SGk.ack, .int .i64 SGk.flags, .int .i64 SGk.window, .slice A5 SGk.dat.length c5] 25 5 rfl) (one5 _ _ _ _ _ _ _) ?d1 ?d2 ?d3 ?_; rotate_left; skip)
            case d1 => unfold maxLen; omega
            case d2 => omega
            case d3 => simp; omega
            intro A9 c9 Wk hr9 hg9 ho9
            obtain ⟨ho2, hf2, hl2⟩ := HX2.out Wk A9 c9 hr9 hg9
            have HOk : Hid (OutR w B q vo vi s m Wk (.slice A9 (L ++ [SGk]).length c9) (L ++ [SGk]) (s1.sayS 0)) := Lib.hid (by
              rw [HO8.out.sam.said, HO8.out.sam.got] at ho2
              refine ⟨HO8.out.ok.say (by have := HO8.out.ok.tl; have := HO8.out.ok.nt; omega) (fun h => by rw [HST1.out] at h; omega), HO8.out.sam.say _, ho2, hf2, ?_⟩
              rw [List.length_append]
              exact hl2)
            clear ho2 hf2 hl2 hr9 hg9 ho9
            have hck := HOk.out.o.blk.cell
            have hltk := HOk.out.o.blk.lt
            dsimp only [rcells, Sm.sayS] at hck
            go_wp2
            go_ret
            exact (by rw [HRES.out.symm.trans HR.out]; exact ⟨A9, c9, by rw [List.length_append]; rfl, by rw [← HSGk.out] at HOk; exact HOk.out⟩)
          | false =>
            have HF : Hid (Sm.finO s1 = ([], s1)) := Lib.hid (by unfold Sm.finO; rw [if_neg]; intro hh; first | exact absurd (HDU.out.2.symm.trans hh.1) (by decide) | exact absurd (HFB.out.trans (decide_eq_true hh.2)) (by decide))
            have HR : Hid (s.openO = (L, s1)) := Lib.hid (by rw [HOP.out, HF.out]; unfold Sm.dueO; rw [if_neg (by rw [HDU.out.1]; decide)]; simp)
            go_wp2_with fail
            go_quiet (fail)
            obtain ⟨W8, hW8⟩ : ∃ W, W = wr.drewN nq := ⟨_, rfl⟩
            rw [← hW8]
            have HO8 : Hid (OutR w B q vo vi s m W8 (.slice A L.length c) L s1) := Lib.hid (by rw [hW8]; exact HO.out.grow (st_drewN (Below.refl _ _) _))
            clear hW8 hc hlt1
            have hc11 := HO8.out.o.blk.cell
            have hlt11 := HO8.out.o.blk.lt
            dsimp only [rcells] at hc11
            rw [HDU.out.1, HDU.out.2] at hc11
            go_wp2
            go_ret
            exact (by rw [HRES.out.symm.trans HR.out]; exact ⟨_, _, rfl, HO8.out⟩)
/-- P51.6. -/
theorem outs51 (h : RSt w B q s vo vi) (hB : B ≤ w.heap.size) (hok : s.Ok m) (hm : m ≤ 1000) :
    Calls Try.prog 51 #[.pointer (some ⟨q, 0, none⟩)] w (OutRP w B q vo vi s m s.outsO) := by
  unfold Sm.outsO
  by_cases h4 : s.st = 4
  · rw [if_pos h4]
    exact outs51_open h hB hok hm h4
  · rw [if_neg h4]
    unfold Sm.synO
    by_cases h5 : (s.st = 2 ∨ s.st = 3) ∧ s.nxt = 0
    · rw [if_pos h5]
      exact outs51_syn h hB hok hm h5.1 h5.2
    · rw [if_neg h5]
      refine outs51_none h hB hok hm h4 ?_
      by_cases h6 : s.st = 2 ∨ s.st = 3
      · exact .inr (fun e => h5 ⟨h6, e⟩)
      · exact .inl ⟨fun e => h6 (.inl e), fun e => h6 (.inr e)⟩
end
end Go.Proofs.Ythlhjaacjhlkhaa
