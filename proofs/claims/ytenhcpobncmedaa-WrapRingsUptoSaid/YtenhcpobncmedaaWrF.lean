/- The law ringlaw1.WrapRings. -/
import Derived.Test.YtenhcpobncmedaaWrE
namespace Go.Proofs.Ytenhcpobncmedaa
open Go.RowKit
set_option maxHeartbeats 400000
set_option linter.unusedVariables false
set_option linter.unusedSimpArgs false
theorem wr_start {w w2 : World} (hb : Below w.heap.size w w2) (size first : Int) : WrSt w (w2.alloc (.cells #[.int .i64 size, .int .u32 first, .slice none 0 0] 119)) w2.heap.size (.slice none 0 0) (.slice none 0 0) size first [] [] :=
  ⟨rg_new w2 w.heap.size hb.size size first, Row.nil _ _ _ _, fun k hk => by simp [Value.ownBlock] at hk, hb.alloc hb.size _⟩
theorem wpList_max {P : Program} (w : World) {ops : Array Oper} {rest : List Oper} {o : Oper} {a : Act} {Q : Exit → Act → World → Prop} (hgd : o.guard = none) (x y : Operand) (t u : TypeId)
    (ho : o.op = .call { callee := .builtin .max, args := #[x, y], argTypes := #[t, u] }) (p q r : Int) (hx : a.eval x = .int .i64 p) (hy : a.eval y = .int .i64 q) (hr : max p q = r)
    (h : wpList P ops Q rest (a.put o.dst (.int .i64 r)) w) : wpList P ops Q (o :: rest) a w :=
  wpList_plain hgd fun K hK => by
    subst hr
    unfold Oper.wp execOp
    by_cases hpq : p < q
    · have e : max p q = q := by omega
      simp only [ho, resolve, invoke, builtin, Sem.run_bind, Sem.run_pure, Result.andThen_ok, List.map_toArray, List.map_cons, List.map_nil, hx, hy]
      simp [Builtin.max_, Builtin.max2, hpq, go_sem]
      rw [e] at h
      exact hK _ _ h
    · have e : max p q = p := by omega
      simp only [ho, resolve, invoke, builtin, Sem.run_bind, Sem.run_pure, Result.andThen_ok, List.map_toArray, List.map_cons, List.map_nil, hx, hy]
      simp [Builtin.max_, Builtin.max2, hpq, go_sem]
      rw [e] at h
      exact hK _ _ h
def LoopRel (w : World) (g : Nat) (size first : Int) (all : List Rb) (va : Value) (wr : World) : Prop :=
  ∃ vl L, WrSt w wr g vl va size ((first + (all.length : Int)) % 4294967296) L all ∧ RInv size.toNat all L
set_option maxHeartbeats 2000000 in
set_option maxRecDepth 100000 in
theorem law_wrapRings (size first : Int) (A : Option Addr) (n c : Nat) (ps : List Rb) (nn : Int) (w : World) (hf : U32 first) (hn' : U32 nn) (h : RRb w w.heap.size A n ps) (hN : n ≤ 1048576) :
    Calls Try.prog 3 #[.int .i64 size, .int .u32 first, .slice A n c, .int .u32 nn] w fun e w' => e = .returned (.bool true) ∧ Below w.heap.size w w' := by
  obtain ⟨i0, hi, hz0, hz1, hz2⟩ := info_parts infoBs
  go_enter Try.func3, Try.ntmps3
  go_wp2_with fail
  refine (wnew 1 5 _ (by omega)).mono ?_
  rintro e w1 ⟨rfl, hw1⟩
  have hR1 := rg_new w w.heap.size (Nat.le_refl _) 1 5
  rw [← hw1] at hR1
  have hb1 : Below w.heap.size w w1 := by rw [hw1]; exact (Below.refl _ _).alloc (Nat.le_refl _) _
  clear hw1
  have hR1' := hR1.grow ((Below.refl w1.heap.size w1).alloc (Nat.le_refl _) (.cells #[.int .u8 7] 5))
  have hb1' := hb1.alloc hb1.size (.cells #[.int .u8 7] 5)
  have HP := Lib.hid (put_ok w.heap.size (some ⟨w1.heap.size, 0, none⟩) 1 1 [7] (w1.heap.size + 1) _ 1 5 [] (w1.alloc (.cells #[.int .u8 7] 5)) w.heap.size hR1' hb1'.size (by omega) (RB.new w1 5 [7] (fun x hx => by simp at hx; omega)) (by simp) (by unfold U32; omega) (by simp) (by omega))
  have HLT := Lib.hid hR1'.lt
  clear hR1 hR1' hb1
  go_wp2_with fail
  refine HP.out.mono ?_
  rintro e w2 ⟨rfl, r, hrx, hrn, vl2, hR2, hf2, ho2⟩
  have hb2 : Below w.heap.size w w2 := hb1'.trans (hf2.below hb1'.size (fun k hk => (HLT.out k hk).1))
  clear HP HLT hb1' hR2 hf2 hrx hrn
  by_cases hs : 1 ≤ size ∧ size ≤ 64
  rotate_left
  · have HN := Lib.hid (wnew_bad size first w2 hs)
    by_cases h1 : size < 1
    · have d1 : decide (size < 1) = true := by simpa using h1
      clear hs h1
      go_wp2_with fail
      refine HN.out.mono ?_
      rintro e w3 ⟨rfl, rfl⟩
      go_wp2
      go_ret
      exact ⟨rfl, hb2⟩
    · have d1 : decide (size < 1) = false := by simpa using h1
      have d2 : decide (64 < size) = true := by simp; omega
      clear hs h1
      go_wp2_with fail
      refine HN.out.mono ?_
      rintro e w3 ⟨rfl, rfl⟩
      go_wp2
      go_ret
      exact ⟨rfl, hb2⟩
  have d1 : decide (size < 1) = false := by simp; omega
  have d2 : decide (64 < size) = false := by simp; omega
  go_wp2_with fail
  refine (wnew size first w2 hs).mono ?_
  rintro e w3 ⟨rfl, hw3⟩
  subst hw3
  have HST : Hid (LoopRel w w2.heap.size size first [] (.slice none 0 0) (w2.alloc (.cells #[.int .i64 size, .int .u32 first, .slice none 0 0] 119))) := Lib.hid (by
    have e1 : (first + (([] : List Rb).length : Int)) % 4294967296 = first := by obtain ⟨h0, h1⟩ := hf; simp; omega
    refine ⟨.slice none 0 0, [], ?_, RInv.none _⟩
    rw [e1]
    exact wr_start hb2 size first)
  clear hb2
  generalize w2.heap.size = g at *
  go_wp2
  go_loopw [15, 79] (fun va i wr => ∃ k : Nat, k ≤ n ∧ i = .int .i64 k ∧ LoopRel w g size first (keepL (ps.take k)) va wr) (fun _ i _ => n - (intOf i).toNat)
  case atStart => exact ⟨0, by omega, rfl, HST.out⟩
  case round =>
    clear HST
    obtain ⟨k, hk, rfl, vl, L, hst, hinv⟩ := hrel
    have hall := keepL_len ps k
    have hLl := hinv.len
    have hL64 : L.length ≤ 64 := by omega
    by_cases hlt : k < n
    rotate_left
    · obtain rfl : k = n := by omega
      have hps : keepL (ps.take k) = keepL ps := by rw [List.take_of_length_le (by rw [h.len]; omega)]
      rw [hps] at hst hinv hall hLl
      obtain ⟨A6, c6, hv6, hc61, hc62⟩ := hst.row.shape
      subst hv6
      have hbase : w.heap.size ≤ wr.heap.size := hst.low.size
      have hents : ∀ r ∈ keepL ps, r.fine w w.heap.size ∧ r.n ≤ 32 := fun r hr => by
        unfold keepL at hr
        rw [List.mem_filter] at hr
        exact ⟨h.2 r hr.1, by simpa using hr.2⟩
      have HRR : Hid (RRb wr wr.heap.size A6 (keepL ps).length (keepL ps)) := Lib.hid ⟨hst.row.reads, fun r hr => ((hents r hr).1.below' hst.low (Nat.le_refl _)).more hbase⟩
      have HEN := Lib.hid hents
      have HST := Lib.hid hst
      have HIN := Lib.hid hinv
      obtain ⟨hf0, hf1⟩ := hf
      obtain ⟨nx, hnx⟩ : ∃ x, (first + ((keepL ps).length : Int)) % 4294967296 = x := ⟨_, rfl⟩
      obtain ⟨gone, hgone⟩ : ∃ x, (keepL ps).length - size.toNat = x := ⟨_, rfl⟩
      have hnx' : U32 nx := by unfold U32; omega
      have hlo : Hid (lowI nx L.length = (first + (gone : Int)) % 4294967296) := Lib.hid (by unfold lowI; rw [hLl]; omega)
      have hrg := hst.rg
      rw [hnx] at hrg
      have HS := Lib.hid (span13 g vl size nx L wr w.heap.size hrg hnx' hL64)
      rw [hlo.out] at HS
      clear hst hinv hents h hps hrg
      generalize hol : (keepL ps).length = l at *
      have HOL := Lib.hid hol
      clear hol
      have hg0 : max 0 ((l : Int) - size) = gone := by omega
      go_wp2_with (refine wpList_max _ rfl (.const (.int .i64 0)) (.tmp 117) 3 3 rfl 0 ((l : Int) - size) gone rfl rfl hg0 ?_)
      go_wp2_with fail
      refine HS.out.mono ?_
      rintro e w5 ⟨rfl, m, hw5⟩
      obtain ⟨lo, hlov⟩ : ∃ x, (first + (gone : Int)) % 4294967296 = x := ⟨_, rfl⟩
      have hlo' : U32 lo := by unfold U32; omega
      rw [hlov] at hlo
      have HST5 : Hid (WrSt w w5 g vl (.slice A6 l c6) size nx L (keepL ps)) := Lib.hid (by
        have := HST.out
        rw [hnx] at this
        rw [hw5]
        exact this.grow (sl_below_drewN (Below.refl _ _) m))
      have HRR5 : Hid (RRb w5 w5.heap.size A6 l (keepL ps)) := Lib.hid (by rw [hw5]; exact HRR.out.drewN m)
      have HAT : Hid (∀ k r, gone ≤ k → (keepL ps)[k]? = some r → ∃ q, L[k - gone]? = some q ∧ q.xs = r.xs ∧ q.n ≤ 32) := Lib.hid (fun k r hk hr => by
        have e1 := HIN.out.xs
        rw [HOL.out, hgone] at e1
        have e2 : (L.map Rb.xs)[k - gone]? = some r.xs := by
          rw [e1, List.getElem?_drop, List.getElem?_map, show gone + (k - gone) = k by omega, hr]; rfl
        rw [List.getElem?_map] at e2
        cases hq : L[k - gone]? with
        | none => rw [hq] at e2; simp at e2
        | some q =>
          rw [hq] at e2
          exact ⟨q, rfl, by simpa using e2, HIN.out.sz q (List.mem_of_getElem? hq)⟩)
      have HIS : Hid (∀ r ∈ L, r.n ≤ 32) := Lib.hid HIN.out.sz
      have HIS2 : Hid (L.map Rb.xs = ((keepL ps).map Rb.xs).drop gone) := Lib.hid (by
        have e1 := HIN.out.xs
        rw [HOL.out, hgone] at e1
        exact e1)
      have HB5 : Hid (Below w.heap.size w w5) := Lib.hid HST5.out.low
      clear HS HST HIN HRR hw5
      go_wp2
      have HNX := Lib.hid hnx
      have HLOV := Lib.hid hlov
      clear hnx hlov
      go_loopw [141] (fun i wx => ∃ k : Nat, k ≤ l ∧ i = .int .i64 k ∧ Below w5.heap.size w5 wx) (fun i _ => l - (intOf i).toNat)
      case atStart => exact ⟨0, by omega, rfl, Below.refl _ _⟩
      case round =>
        obtain ⟨j, hj, rfl, hbx⟩ := hrel
        have hst := HST5.out.grow hbx
        have hl20 : l ≤ 1048576 := by omega
        by_cases hlt : j < l
        rotate_left
        · obtain rfl : j = l := by omega
          have hcnt : L.length = j - gone := by omega
          obtain ⟨n0, n1⟩ := hn'
          obtain ⟨l0, l1⟩ := hlo'
          have hnxlo : Hid (nx = (lo + (j - gone : Nat)) % 4294967296) := Lib.hid (by have := HLOV.out; have := HNX.out; omega)
          obtain ⟨k, hkk⟩ : ∃ k : Nat, (nn - lo) % 4294967296 = (k : Int) := ⟨((nn - lo) % 4294967296).toNat, by omega⟩
          have hk32 : k < 4294967296 := by omega
          by_cases hbig : j - gone < k
          · have hi9 : farI lo nn < 0 ∨ farI nn nx < 0 := by have := hnxlo.out; unfold farI; omega
            have hi8 : ¬ (0 ≤ farI lo nn ∧ farI lo nn < L.length) := by unfold farI; omega
            have HF := Lib.hid (from_none g vl size nx nn L wr w.heap.size hst.rg hnx' ⟨n0, n1⟩ hL64 (by rw [hlo.out]; exact hi9))
            have dk : decide ((j : Int) - gone < (k : Int)) = true := decide_eq_true (by omega)
            have HSTW := Lib.hid hst
            clear hst hi9
            go_wp2_with fail
            refine HF.out.mono ?_
            rintro e w6 ⟨rfl, hb6⟩
            have HG := Lib.hid (get_none g vl size nx nn L w6 w.heap.size (HSTW.out.rg.grow hb6) hnx' ⟨n0, n1⟩ hL64 (by rw [hlo.out]; exact hi8))
            go_wp2_with fail
            refine HG.out.mono ?_
            rintro e w7 ⟨rfl, hb7⟩
            go_wp2
            go_ret
            exact ⟨rfl, HB5.out.trans ((hbx.trans ((hb6.trans (hb7.mono hb6.size)).mono hbx.size)).mono HB5.out.size)⟩
          · have hi9 : farI lo nn = (k : Int) := by unfold farI; omega
            have hi8 : 0 ≤ farI nn nx := by have := hnxlo.out; unfold farI; omega
            have HF := Lib.hid (from_some g vl size nx nn L wr w.heap.size k hst.rg hnx' ⟨n0, n1⟩ hL64 (by rw [hlo.out]; exact hi9) (by omega) hi8 (fun r hr => by have := hst.rg.ent r hr; have := (HIS.out r hr); omega))
            have dk : decide ((j : Int) - gone < (k : Int)) = false := decide_eq_false (by omega)
            have hgk : gone + k ≤ j := by omega
            have hrow := hst.row
            rw [HOL.out] at hrow
            have hcut := hrow.cut (k := gone + k) hgk
            rw [Nat.mul_one, ← List.map_drop] at hcut
            clear hrow
            have HSTW := Lib.hid hst
            have HEQ : Hid (∀ A1 c1 A' c' L' w6, (if c6 = gone + k then A6 else A6.map (·.add (gone + k))) = A1 → c6 - (gone + k) = c1 → RRb w6 w6.heap.size A' ((L.drop k).map Rb.xs).length L' → L'.map Rb.xs = (L.drop k).map Rb.xs → Below wr.heap.size wr w6 → Calls Try.prog 17 #[.slice A' (j - gone - k) c', .slice A1 (j - (gone + k)) c1, .func (.func 15) #[] #[]] w6 fun e w' => e = .returned (.bool true) ∧ w6 = w') := Lib.hid (by
              intro A1 c1 A' c' L' w6 h1 h2 hrr6 hxs6 hb6
              have e1 : ((L.drop k).map Rb.xs).length = j - gone - k := by simp; omega
              rw [e1] at hrr6
              have e2 : j - (gone + k) = j - gone - k := by omega
              rw [h1, h2, e2] at hcut
              rw [e2]
              have hw6 := hst.low.size
              have hR2 : RRb wr wr.heap.size A1 (j - gone - k) ((keepL ps).drop (gone + k)) := ⟨hcut.reads, fun r hr => ((HEN.out r (List.mem_of_mem_drop hr)).1.below' hst.low (Nat.le_refl _)).more hw6⟩
              refine equalFunc17 A' A1 (j - gone - k) c' c1 L' ((keepL ps).drop (gone + k)) w6 _ _ hrr6 (hR2.below' hb6 (Nat.le_refl _)) (by omega) ?_
              have e3 := HIS2.out
              rw [hxs6, List.map_drop, e3, List.map_drop, List.drop_drop])
            clear hst hi9 hi8 hcut
            by_cases hck : c6 = gone + k
            · have HQ := Lib.hid (fun A' c' L' w6 h1 h2 h3 => HEQ.out A6 0 A' c' L' w6 (if_pos hck) (by omega) h1 h2 h3)
              clear HEQ
              go_wp2_with fail
              refine HF.out.mono ?_
              rintro e w6 ⟨A', c', L', rfl, hrr6, hxs6, hb6⟩
              have HQ6 := Lib.hid (HQ.out A' c' L' w6 hrr6 hxs6 hb6)
              clear hrr6 hxs6
              go_wp2_with fail
              refine HQ6.out.mono ?_
              rintro e w7 ⟨rfl, rfl⟩
              go_wp2
              go_ret
              exact ⟨rfl, HB5.out.trans ((hbx.trans (hb6.mono hbx.size)).mono HB5.out.size)⟩
            · have HQ := Lib.hid (fun A' c' L' w6 h1 h2 h3 => HEQ.out _ _ A' c' L' w6 (if_neg hck) rfl h1 h2 h3)
              clear HEQ
              go_wp2_with fail
              refine HF.out.mono ?_
              rintro e w6 ⟨A', c', L', rfl, hrr6, hxs6, hb6⟩
              have HQ6 := Lib.hid (HQ.out A' c' L' w6 hrr6 hxs6 hb6)
              clear hrr6 hxs6
              go_wp2_with fail
              refine HQ6.out.mono ?_
              rintro e w7 ⟨rfl, rfl⟩
              go_wp2
              go_ret
              exact ⟨rfl, HB5.out.trans ((hbx.trans (hb6.mono hbx.size)).mono HB5.out.size)⟩
        · have hrr := (HRR5.out.below' hbx (Nat.le_refl _))
          obtain ⟨b, o, r, rfl, hb, hr, hfi, hcell⟩ := hrr.at_ hlt
          have hrn := (HEN.out r (List.mem_of_getElem? hr)).2
          have hfar : farI lo ((first + (j : Int)) % 4294967296) = (j : Int) - gone := by have := HLOV.out; unfold farI; omega
          have hu : U32 ((first + (j : Int)) % 4294967296) := by unfold U32; omega
          by_cases hjg : j < gone
          · have HG := Lib.hid (get_none g vl size nx ((first + (j : Int)) % 4294967296) L wr w.heap.size hst.rg hnx' hu hL64 (by rw [hlo.out, hfar]; omega))
            have dj : decide ((j : Int) < gone) = true := decide_eq_true (by omega)
            have dj2 : decide ((gone : Int) ≤ j) = false := decide_eq_false (by omega)
            clear hst hrr hfi
            go_wp2_with fail
            refine HG.out.mono ?_
            rintro e w6 ⟨rfl, hb6⟩
            go_wp2
            go_roundw
            case rel => exact ⟨j + 1, by omega, by go_num, hbx.trans (hb6.mono hbx.size)⟩
            case measure => simp [intOf]; omega
          · obtain ⟨q, hq, hqx, hqn⟩ := HAT.out j r (by omega) hr
            have HG := Lib.hid (get_some g vl size nx ((first + (j : Int)) % 4294967296) L wr w.heap.size (j - gone) q hst.rg hnx' hu hL64 (by rw [hlo.out, hfar]; omega) hq (by omega))
            have dj : decide ((j : Int) < gone) = false := decide_eq_false (by omega)
            have dj2 : decide ((gone : Int) ≤ j) = true := decide_eq_true (by omega)
            have HFI := Lib.hid hfi
            have hwx := Lib.hid hrr
            clear hst hrr hfi
            go_wp2_with fail
            refine HG.out.mono ?_
            rintro e w6 ⟨A', c', rfl, hrb6, hb6⟩
            have HEQ : Hid (Calls Try.prog 15 #[.slice A' q.n c', .slice r.A r.n r.c] w6 fun e w' => e = .returned (.bool true) ∧ w' = w6) := Lib.hid ((bytesEqual A' r.A q.n c' r.n r.c q.xs r.xs w6 _ _ hrb6 (HFI.out.below' hb6 hbx.size).1).mono (by
              rintro e w' ⟨rfl, rfl⟩
              exact ⟨by rw [hqx]; simp, rfl⟩))
            clear hrb6
            go_wp2_with fail
            refine HEQ.out.mono ?_
            rintro e w7 ⟨rfl, rfl⟩
            go_wp2
            go_roundw
            case rel => exact ⟨j + 1, by omega, by go_num, hbx.trans (hb6.mono hbx.size)⟩
            case measure => simp [intOf]; omega
    · obtain ⟨b, o, r, rfl, hb, hr, hfi, hcell⟩ := (h.below' hst.low (Nat.le_refl _)).at_ hlt
      have HKT := Lib.hid (keepL_take hr)
      have hrn := hfi.2
      obtain ⟨A6, c6, hv6, hc61, hc62⟩ := hst.row.shape
      subst hv6
      have HST := Lib.hid hst
      have HIN := Lib.hid hinv
      by_cases hbig : 32 < r.n
      · have HP := Lib.hid (put_large g r.A r.n r.c wr hbig)
        have hke : Hid (keepL (ps.take (k + 1)) = keepL (ps.take k)) := Lib.hid (by rw [HKT.out, if_neg (by omega)]; simp)
        have db : decide (32 < (r.n : Int)) = true := decide_eq_true (by omega)
        clear hst hinv hfi hr
        generalize hol : (keepL (ps.take k)).length = l at *
        have HOL := Lib.hid hol
        clear hol
        go_wp2_with fail
        refine HP.out.mono ?_
        rintro e w5 ⟨rfl, rfl⟩
        go_wp2
        go_roundw
        case rel => exact ⟨k + 1, by omega, by go_num, by rw [hke.out]; exact ⟨vl, L, by rw [HOL.out]; exact HST.out, HIN.out⟩⟩
        case measure => simp [intOf]; omega
      · have HP := Lib.hid (put_ok g r.A r.n r.c r.xs w.heap.size vl size ((first + ((keepL (ps.take k)).length : Int)) % 4294967296) L wr w.heap.size hst.rg hst.low.size (by omega) hfi.1 hst.low.size (by unfold U32; omega) hL64 hs)
        have hke : Hid (keepL (ps.take (k + 1)) = keepL (ps.take k) ++ [r]) := Lib.hid (by rw [HKT.out, if_pos (by omega)])
        have db : decide (32 < (r.n : Int)) = false := decide_eq_false (by omega)
        clear hst hinv hfi hr
        generalize hol : (keepL (ps.take k)).length = l at *
        have HOL := Lib.hid hol
        clear hol
        obtain ⟨nx, hnx⟩ : ∃ x, (first + (l : Int)) % 4294967296 = x := ⟨_, rfl⟩
        rw [hnx] at HP
        go_wp2_with fail
        refine HP.out.mono ?_
        rintro e w5 ⟨rfl, q, hqx, hqn, hgo⟩
        have hst0 := HST.out
        rw [hnx] at hst0
        obtain ⟨vl5, hst5⟩ := hst0.go hgo
        have hrow5 := hst5.row
        rw [HOL.out] at hrow5
        obtain ⟨nv, hnv⟩ : ∃ x, (nx + 1) % 4294967296 = x := ⟨_, rfl⟩
        have HST5 := Lib.hid hst5
        have hsz5 := hst5.low.size
        clear hst0 hgo hst5
        have hnn : (nx != nx) = false := by simp
        have hms : w5.heap.size ≥ w.heap.size := hsz5
        have hl20 : l ≤ 1048576 := by have := HOL.out; omega
        go_wp2_with (at_builtin; refine wpList_append_row _ rfl (.tmp 109) (.tmp 111) 23 rfl w.heap.size 30 i0 (.slice none 0 0) 1 24 Try.underlying23 hi hz0 hz1 hz2 rfl (by decide) (.slice A6 l c6) l ((keepL (ps.take k)).map Rb.val) rfl (hrow5.alloc _) (w5.heap.size + 1) (some ⟨w5.heap.size, 0, none⟩) 1 1 [.slice r.A r.n r.c] rfl (reads_one w5 (.slice r.A r.n r.c) 30) (by simp [Value.oneCell']) (by unfold maxLen; omega) (by omega) (by simp; omega) ?_)
        intro A8 c8 w8 hr8 hg8 ho8
        have HNEW : Hid (LoopRel w g size first (keepL (ps.take (k + 1))) (.slice A8 (l + 1) c8) w8) := Lib.hid (by
          have h8 := HST5.out.app (b := r) (by rw [HOL.out]; exact hr8) hg8 ho8
          have e1 : (nx + 1) % 4294967296 = (first + ((keepL (ps.take k) ++ [r]).length : Int)) % 4294967296 := by
            rw [List.length_append, HOL.out, ← hnx]; simp; omega
          rw [e1] at h8
          rw [hke.out]
          have e2 : (size.toNat : Int) = size := by omega
          have h9 := HIN.out.put (by omega) hqx (by omega)
          rw [e2] at h9
          exact ⟨vl5, _, h8, h9⟩)
        clear hr8 hg8 ho8 hrow5
        go_wp2
        go_roundw
        case rel => exact ⟨k + 1, by omega, by go_num, HNEW.out⟩
        case measure => simp [intOf]; omega
end Go.Proofs.Ytenhcpobncmedaa
