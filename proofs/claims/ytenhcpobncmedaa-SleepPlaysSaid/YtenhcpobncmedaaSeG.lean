/- Locks that are slept for: contract of the reference's Eff (a map of priorities that grows for seventeen rounds). -/
import Derived.Test.YtenhcpobncmedaaSeF
import Derived.Maps.RangeWalk
namespace Go.Proofs.Ytenhcpobncmedaa
open Go.RowKit Go.Maps
set_option maxHeartbeats 400000
set_option linter.unusedVariables false
set_option linter.unusedSimpArgs false
/-- What has been copied out of the map of priorities: whatever is no longer to come. -/
def Cop (P : Int → Option Int) (left : Lit → Bool) (f : Int → Option Int) : Prop := (∀ x : Int, f x = if left (.int .i64 x) = true then none else P x) ∧ ∀ x : Int, left (.int .i64 x) = true → (P x).isSome = true
theorem Cop.start {P : Int → Option Int} {D : DataW Unit} (h : ∀ x : Int, Maps.has D (.int .i64 x) = (P x).isSome) : Cop P (Maps.has D) (fun _ => none) := by
  refine ⟨fun x => ?_, fun x hx => (h x).symm.trans hx⟩
  rw [h x]
  cases P x <;> rfl
theorem Cop.step {P : Int → Option Int} {left : Lit → Bool} {f : Int → Option Int} (h : Cop P left f) {x c : Int} (hx : left (.int .i64 x) = true) (hc : c = (P x).getD 0) : Cop P (fun z => left z && !z.sameKey (.int .i64 x)) (fun z => if z = x then some c else f z) := by
  have hs := h.2 x hx
  obtain ⟨p, hp⟩ := Option.isSome_iff_exists.1 hs
  refine ⟨fun z => ?_, fun z hz => h.2 z (by simp at hz; exact hz.1)⟩
  dsimp only
  by_cases e : z = x
  · subst e
    rw [if_pos rfl, hc, hp]
    simp [Lit.sameKey]
  · rw [if_neg e, h.1 z]
    have : (Lit.int .i64 z).sameKey (.int .i64 x) = false := by simp [Lit.sameKey, e]
    simp [this]
theorem Cop.done {P : Int → Option Int} {left : Lit → Bool} {f : Int → Option Int} (h : Cop P left f) (hl : ∀ kl, left kl = false) : f = P := by
  funext x
  rw [h.1 x, hl]; rfl
/-- What has been done in this round: all of the first k rows, and of row k the first j. -/
def dn (s : LkS) (k j : Nat) (y t : Int) : Prop := ∃ i, i < 16 ∧ t = s.O i ∧ ((i < k ∧ y ∈ s.F i) ∨ (i = k ∧ y ∈ (s.F i).take j))
theorem dn_zero {s : LkS} {y t : Int} (h : dn s 0 0 y t) : False := by
  obtain ⟨i, _, _, ⟨h, _⟩ | ⟨rfl, h⟩⟩ := h
  · omega
  · simp at h
theorem dn_row {s : LkS} {k : Nat} {y t : Int} (h : dn s (k + 1) 0 y t) : dn s k (s.F k).length y t := by
  obtain ⟨i, hi, ht, ⟨h, hy⟩ | ⟨rfl, h⟩⟩ := h
  · rcases Nat.lt_or_ge i k with hik | hik
    · exact ⟨i, hi, ht, .inl ⟨hik, hy⟩⟩
    · have : i = k := by omega
      subst this
      exact ⟨i, hi, ht, .inr ⟨rfl, by rw [List.take_length]; exact hy⟩⟩
  · simp at h
theorem dn_more {s : LkS} {k j : Nat} (hj : j < (s.F k).length) {y t : Int} (h : dn s k (j + 1) y t) : dn s k j y t ∨ (y = (s.F k).getD j 0 ∧ t = s.O k) := by
  obtain ⟨i, hi, ht, ⟨h, hy⟩ | ⟨rfl, h⟩⟩ := h
  · exact .inl ⟨i, hi, ht, .inl ⟨h, hy⟩⟩
  · rw [List.take_succ_eq_append_getElem hj] at h
    rcases List.mem_append.1 h with h | h
    · exact .inl ⟨i, hi, ht, .inr ⟨rfl, h⟩⟩
    · refine .inr ⟨?_, ht⟩
      rw [List.mem_singleton] at h
      rw [h]; simp [List.getD, List.getElem?_eq_getElem hj]
theorem dn_all {s : LkS} {i : Nat} (hi : i < 16) {x : Int} (hx : x ∈ s.F i) : dn s 16 0 x (s.O i) := ⟨i, hi, rfl, .inl ⟨hi, hx⟩⟩
/-- One pair, in the walk's words. -/
theorem ef_pair {s : LkS} {L : List Int} (hs : LkOk s) (hL : Ord s L) {r k j : Nat} {M : Int → Option Int} (hk : k < 16) (hj : j < (s.F k).length) (h : EffAt s L r (dn s k j) M) :
    ((M (s.O k)).getD 0 < (M ((s.F k).getD j 0)).getD 0 → EffAt s L r (dn s k (j + 1)) (fun z => if z = s.O k then some ((M ((s.F k).getD j 0)).getD 0) else M z)) ∧
    (¬ (M (s.O k)).getD 0 < (M ((s.F k).getD j 0)).getD 0 → EffAt s L r (dn s k (j + 1)) M) := by
  have hx := getD_mem hj
  generalize hxx : (s.F k).getD j 0 = x at *
  have hm := hs.mem k hk x hx
  obtain ⟨mx, hmx⟩ := Option.isSome_iff_exists.1 ((h.there x).trans hm.1)
  obtain ⟨mo, hmo⟩ := Option.isSome_iff_exists.1 ((h.there (s.O k)).trans (hs.own k hk hm.2))
  have hp := (h.pair hs hL hk hx hmx hmo).more (done' := dn s k (j + 1)) (fun y t hd => by have := dn_more hj hd; rw [hxx] at this; exact this)
  rw [hmx, hmo]
  simp only [Option.getD_some]
  refine ⟨fun hlt => ?_, fun hlt => ?_⟩
  · have e : max mo mx = mx := by omega
    rw [e] at hp; exact hp
  · have e : max mo mx = mo := by omega
    rw [e] at hp
    have : (fun z => if z = s.O k then some mo else M z) = M := by
      funext z
      by_cases hz : z = s.O k
      · rw [if_pos hz, hz, hmo]
      · rw [if_neg hz]
    rw [this] at hp; exact hp
theorem ef_wf {s : LkS} {L : List Int} (hs : LkOk s) {r : Nat} {done : Int → Int → Prop} {M : Int → Option Int} (h : EffAt s L r done M) (x : Int) : (Lit.int .i64 ((M x).getD 0)).wf = true := by
  have : 0 ≤ (M x).getD 0 ∧ (M x).getD 0 < 8 := by
    cases hm : M x with
    | none => simp
    | some m =>
      obtain ⟨p, hp⟩ := Option.isSome_iff_exists.1 ((h.there x).symm.trans (by rw [hm]; rfl) : (s.P x).isSome = true)
      have h1 := h.low x p m hp hm
      have h2 := h.high x m hm
      have h3 := eff_rng hs x
      have h4 := hs.prio x p hp
      simp only [Option.getD_some]
      omega
  simp [Lit.wf, IntKind.min, IntKind.max, IntKind.signed, IntKind.bits]; omega
section
variable {w : World} {g bp np bf nf : Nat} {s : LkS}
theorem eff_val {M : Int → Option Int} {L : List Int} {t : Int} (hs : LkOk s) (hL : Ord s L) (h : EffAt s L 17 (fun _ _ => False) M) (ht : (s.P t).isSome = true) : (M t).getD 0 = eff s t := by
  rw [h.done hs hL (by omega) ht]; rfl
set_option maxHeartbeats 2000000 in
set_option maxRecDepth 100000 in
theorem eff120 (hs : LkOk s) (h : LkR w g bp np s) (hnp : np ≤ 10000000000000) (t : Int) (hP : (s.P t).isSome = true) :
    Calls Try.prog 120 #[.pointer (some ⟨g, 0, none⟩), .int .i64 t] w fun e w' => e = .returned (.int .i64 (eff s t)) ∧ Below w.heap.size w w' := by
  have hmm := @run_makeMap Try.prog
  obtain ⟨L, hL⟩ := hs.ord
  obtain ⟨D, hown, hmap, hD⟩ := h.pr
  have htw := task_wf (hs.task hP).1 (hs.task hP).2
  have hsz := hown.size_le
  have hbl := hown.lt
  have hp := h.hp
  have HR := Lib.hid h
  have HV := Lib.hid (fun M hm => eff_val (M := M) hs hL hm hP)
  have HST := Lib.hid (EffAt.start hs hL)
  have HNX := Lib.hid (fun r M (hm : EffAt s L r (dn s 16 0) M) => hm.next hs hL (fun i hi x hx => dn_all hi hx))
  have HPR := Lib.hid (fun r k j M hk hj hm => ef_pair hs hL (r := r) (k := k) (j := j) (M := M) hk hj hm)
  have HDD := Lib.hid hD
  have HC0 := Lib.hid (Cop.start (P := s.P) (fun x => (hD x).2))
  have HMW := Lib.hid (fun k (hk : k < 16) x (hx : x ∈ s.F k) => task_wf (hs.task (hs.mem k hk x hx).1).1 (hs.task (hs.mem k hk x hx).1).2)
  have HOW := Lib.hid (fun k (hk : k < 16) x (hx : x ∈ s.F k) => task_wf (hs.task (hs.own k hk (hs.mem k hk x hx).2)).1 (hs.task (hs.own k hk (hs.mem k hk x hx).2)).2)
  have HLN := Lib.hid (fun k (hk : k < 16) => hs.len hk)
  have e1 : (w.alloc (.map #[] 0)).heap.size = w.heap.size + 1 := by simp
  have HGW := Lib.hid (fun wr (hb : Below w.heap.size w wr) => h.grow hb)
  have HWF := Lib.hid (fun r done M (hm : EffAt s L r done M) x => ef_wf hs hm x)
  have hgl := h.lt
  have HL := Lib.hid (fun wr (hb : Below w.heap.size w wr) j u (hu : (rowsA w g)[j]? = some u) => (hb.cell (p := ⟨g, 17 + j, none⟩) h.lt).trans (rowsA_cell h j u hu))
  have HX := Lib.hid (fun i hi => h.hr i hi)
  have HG := Lib.hid (fun W' i hi A n c (hc : w.cell? ⟨g, 17 + i, none⟩ = some (.slice A n c)) => run_index89 W' (rowsA w g) i A n c hi (rowsA_at hi hc))
  have HI := Lib.hid (info89 w g)
  generalize rowsA w g = cs at *
  clear hD hP h hmap
  go_enter Try.func120, Try.ntmps120
  go_wp2_with (first
    | (at_range; refine wpList_range_own _ rfl _ 78 rfl 3 3 (int_keyed Try.underlying3) Try.underlying78 _ bp np D rfl (hown.alloc _) ?_; intro w0 hrg0 hg0 hs0)
    | fail)
  rw [e1] at hrg0 hs0
  have hb0 : Below w.heap.size w w0 := ((Below.refl _ _).alloc (Nat.le_refl _) _).grown hg0 (by simp) (fun j hj => by cases hj)
  have hI0 : IntMap Try.prog w0 3 3 w.heap.size 0 (fun _ => none) := (IntMap.made Try.prog w 3 3).fr ((Fr.refl Nil _).grown hg0 (fun k hk => by cases hk)) (fun h => h)
  go_loopw [6] (fun _ wr => ∃ (left : Lit → Bool) (cnt nn : Nat) (f : Int → Option Int), wr.ranges Try.prog 3 (plainElem Try.prog 3) bp (w.heap.size + 1) np D left cnt ∧ nn + cnt ≤ Maps.size D ∧
      Hid (IntMap Try.prog wr 3 3 w.heap.size nn f) ∧ Hid (Cop s.P left f) ∧ Below w.heap.size w wr)
    (fun _ wr => wr.rangeLeft bp (w.heap.size + 1))
  case atStart => exact ⟨_, _, 0, fun _ => none, hrg0, by omega, Lib.hid hI0, HC0, hb0⟩
  case round =>
    obtain ⟨left, cnt, nn, f, hrg, hcs, hI, hC, hbw⟩ := hrel
    clear hI0 hg0 hrg0 hb0 hs0
    have HBW := Lib.hid hbw
    go_wp2_with (first
      | (at_next; refine wpList_next_ranges_ii _ rfl _ rfl 3 3 .i64 .i64 (int_keyed Try.underlying3) Try.underlying3 Try.underlying3 bp (w.heap.size + 1) np _ _ _ rfl hrg ?_ ?_)
      | fail)
    · intro hc0 hl0
      have hfP : f = s.P := hC.out.done hl0
      subst hfP
      have hnn : nn ≤ np := by omega
      clear hC hrg hl0 hbw hcs hc0
      obtain ⟨W, hW⟩ : ∃ W, W = wr := ⟨_, rfl⟩
      subst hW
      go_wp2
      go_loopw [27] (fun i wr => ∃ (r n2 : Nat) (M : Int → Option Int), r ≤ 17 ∧ i = .int .i64 r ∧ n2 ≤ np + r * 256 ∧ Hid (IntMap Try.prog wr 3 3 w.heap.size n2 M) ∧ Hid (EffAt s L r (fun _ _ => False) M) ∧ Below w.heap.size w wr) (fun i _ => 17 - (intOf i).toNat)
      case atStart => exact ⟨0, nn, s.P, by omega, rfl, by omega, hI, HST, HBW.out⟩
      case round =>
        obtain ⟨r, n2, M, hr, rfl, hn2, hI2, hE2, hb2⟩ := hrel
        clear hI HBW
        have HB2 := Lib.hid hb2
        by_cases hr17 : r < 17
        · have hri : (r : Int) < 17 := by omega
          have HLW := Lib.hid (HL.out wr hb2)
          have hE3 : Hid (EffAt s L r (dn s 0 0) M) := Lib.hid (hE2.out.more (fun y t h => dn_zero h))
          clear hE2 hb2
          go_wp2_with (refine wpList_load_arr rfl 89 (.tmp 31) rfl g 17 rfl cs _ HLW.out Try.underlying89 rfl HI.out ?_)
          obtain ⟨W, hW⟩ : ∃ W, W = wr := ⟨_, rfl⟩
          subst hW
          go_loopw [33] (fun i wr => ∃ (k n3 : Nat) (M : Int → Option Int), k ≤ 16 ∧ i = .int .i64 k ∧ n3 ≤ np + r * 256 + k * 16 ∧ Hid (IntMap Try.prog wr 3 3 w.heap.size n3 M) ∧ Hid (EffAt s L r (dn s k 0) M) ∧ Below w.heap.size w wr) (fun i _ => 16 - (intOf i).toNat)
          case atStart => exact ⟨0, n2, M, by omega, rfl, by omega, hI2, hE3, HB2.out⟩
          case round =>
            obtain ⟨k, n3, M3, hk, rfl, hn3, hI4, hE4, hb3⟩ := hrel
            clear hI2 hE3
            have HB3 := Lib.hid hb3
            by_cases hk16 : k < 16
            · have hki : (k : Int) < 16 := by omega
              have hk00 : (0 : Int) ≤ k := by omega
              obtain ⟨A, m, c, hc, hrd, hm⟩ := HX.out k hk16
              have hix := HG.out wr k hk16 A m c hc
              have HRD := Lib.hid hrd
              have HML := Lib.hid hrd.len
              have hm16 : m ≤ 16 := by have := HLN.out k hk16; rw [HML.out] at this; exact this
              clear hrd hc hb3
              go_wp2
              clear hix
              obtain ⟨W2, hW⟩ : ∃ W2, W2 = wr := ⟨_, rfl⟩
              subst hW
              go_loopw [39] (fun i wr => ∃ (j n4 : Nat) (M : Int → Option Int), j ≤ m ∧ i = .int .i64 j ∧ n4 ≤ np + r * 256 + k * 16 + j ∧ Hid (IntMap Try.prog wr 3 3 w.heap.size n4 M) ∧ Hid (EffAt s L r (dn s k j) M) ∧ Below w.heap.size w wr) (fun i _ => m - (intOf i).toNat)
              case atStart => exact ⟨0, n3, M3, by omega, rfl, by omega, hI4, hE4, HB3.out⟩
              case round =>
                obtain ⟨j, n4, M4, hj, rfl, hn4, hI5, hE5, hb4⟩ := hrel
                clear hI4 hE4
                have HB4 := Lib.hid hb4
                by_cases hjm : j < m
                · obtain ⟨b, of, rfl, hb, hcj⟩ := (HRD.out.below' hb4 (Nat.le_refl _)).at_ hjm
                  have hjn : (j : Int) < m := by omega
                  have hjl : j < (s.F k).length := by rw [HML.out]; exact hjm
                  have ho := (HGW.out wr hb4).ho k hk16
                  have hxm := getD_mem hjl
                  have hxw := HMW.out k hk16 _ hxm
                  have how := HOW.out k hk16 _ hxm
                  have HP := Lib.hid (HPR.out r k j M4 hk16 hjl hE5.out)
                  have hl1 := hI5.out.run_lookup Try.underlying3 Try.underlying3 Try.underlying78 (zero3 wr) how
                  have hl2 := hI5.out.run_lookup Try.underlying3 Try.underlying3 Try.underlying78 (zero3 wr) hxw
                  have hwv := HWF.out r _ M4 hE5.out ((s.F k).getD j 0)
                  clear hb4 hxm hE5 hjl
                  generalize (s.F k).getD j 0 = x at *
                  generalize s.O k = o at *
                  by_cases hlt : (M4 o).getD 0 < (M4 x).getD 0
                  · have HP1 := Lib.hid (HP.out.1 hlt)
                    have hvw := hwv
                    obtain ⟨w2, hup, hI6, hg2⟩ := hI5.out.update Try.underlying3 Try.underlying3 Try.underlying78 (by unfold maxLen; omega) how hvw
                    have HI6 := Lib.hid hI6
                    have HB6 := Lib.hid (HB4.out.grown hg2 HB4.out.size (fun j hj => by cases hj; exact Nat.le_refl _))
                    have HM4 := Lib.hid (rfl : M4 x = M4 x)
                    clear hI6 hg2
                    generalize (M4 x).getD 0 = mx at *
                    generalize (M4 o).getD 0 = mo at *
                    go_wp2
                    go_roundw
                    case rel => exact ⟨j + 1, n4 + 1, _, by omega, by go_num, by omega, HI6, HP1, HB6.out⟩
                    case measure => simp [intOf]; omega
                  · have HP1 := Lib.hid (HP.out.2 (by omega))
                    generalize (M4 x).getD 0 = mx at *
                    generalize (M4 o).getD 0 = mo at *
                    go_wp2
                    go_roundw
                    case rel => exact ⟨j + 1, n4, M4, by omega, by go_num, by omega, hI5, HP1, HB4.out⟩
                    case measure => simp [intOf]; omega
                · obtain rfl : j = m := by omega
                  have HE6 : Hid (EffAt s L r (dn s (k + 1) 0) M4) := Lib.hid (hE5.out.more (fun y t h => by have := dn_row h; rw [HML.out] at this; exact this))
                  clear hb4
                  go_wp2
                  go_roundw
                  case rel => exact ⟨k + 1, n4, M4, by omega, by go_num, by omega, hI5, HE6, HB4.out⟩
                  case measure => simp [intOf]; omega
            · obtain rfl : k = 16 := by omega
              have HE5 := Lib.hid (HNX.out r M3 hE4.out)
              clear hb3
              go_wp2
              go_roundw
              case rel => exact ⟨r + 1, n3, M3, by omega, by go_num, by omega, hI4, HE5, HB3.out⟩
              case measure => simp [intOf]; omega
        · obtain rfl : r = 17 := by omega
          have hlk := hI2.out.run_lookup Try.underlying3 Try.underlying3 Try.underlying78 (zero3 wr) htw
          rw [HV.out M hE2.out] at hlk
          clear hb2
          go_wp2
          go_ret
          exact ⟨rfl, HB2.out⟩
    · intro x c w1 cnt1 hwx hwc hlx hat hrg1 hlt hg1 hs1 hen
      have hf1 : Fr (fun k => k = w.heap.size + 1) wr w1 := (Fr.refl _ _).grown hg1 (fun k e _ => by injection e with e; exact e.symm)
      have hI1 := hI.out.fr hf1 (by omega)
      have hb1 : Below w.heap.size w w1 := HBW.out.grown hg1 HBW.out.size (fun j hj => by cases hj; exact Nat.le_succ _)
      have hcv : c = (s.P x).getD 0 := by
        have h1 := hat (.lit (.int .i64 0))
        rw [(HDD.out x).1] at h1
        injection h1 with h1
        injection h1 with _ h1
        exact h1.symm
      obtain ⟨w2, hup, hI2, hg2⟩ := hI1.update Try.underlying3 Try.underlying3 Try.underlying78 (by unfold maxLen; omega) hwx hwc
      have HI2 := Lib.hid hI2
      have HC2 := Lib.hid (hC.out.step hlx hcv)
      have hrg2 := hrg1.kept hg2 (fun e => by have := Option.some.inj e; omega) (fun e => by have := Option.some.inj e; omega)
      have HB2 := Lib.hid (hb1.grown hg2 (by have := HBW.out.size; omega) (fun j hj => by cases hj; exact Nat.le_refl _))
      clear hf1 hI1 hb1 hI2 hcv hat hC hbw
      go_wp2
      go_roundw
      case rel => exact ⟨_, cnt1, nn + 1, _, hrg2, by omega, HI2, HC2, HB2.out⟩
      case measure => rw [hrg2.left_eq, hrg.left_eq]; exact hlt
end
end Go.Proofs.Ytenhcpobncmedaa
