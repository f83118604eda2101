/- Contract of BindPull (printed by mkPuE.py). -/
import Derived.Test.YtplfdibbnkjckaaPuD
namespace Go.Proofs.Ytplfdibbnkjckaa
open Go.RowKit
set_option maxHeartbeats 400000
set_option linter.unusedVariables false
set_option linter.unusedSimpArgs false
theorem step_append_lit0 {P : Program} {ops : Array Oper} {o : Oper} {a : Act} {w : World} {K : Act → World → Prop} {Q : Exit → Act → World → Prop} {E : Prop} (hgd : o.guard = none) (s x : Operand) (t : TypeId)
    (ho : o.op = .call { callee := .builtin .append, args := #[s, x], argTypes := #[t, t] })
    (base : Nat) (e : TypeId) (i : TypeInfo) (z : Value) (size bytes : Nat) (ht : P.underlying t = some (.slice e)) (hi : P.info? e = some i) (hz : i.zero = some z)
    (hsize : i.size = size) (hby : i.bytes = bytes) (hzs : z.cells.size = size) (hsz : 0 < size) (g : Nat) (hs : a.eval s = .slice (some ⟨g, 0, none⟩) 0 0) (hown : Row w base e size (.slice (some ⟨g, 0, none⟩) 0 0) 0 [])
    (B : Nat) (A : Option Addr) (m c : Nat) (news : List Value) (hx : a.eval x = .slice A m c) (hr : Reads w B size A m news)
    (h63 : m ≤ maxLen) (hbytes : m * bytes ≤ 140737488355328) (hbase : base ≤ w.heap.size)
    (h : ∀ A' c' w', Row w' base e size (.slice A' m c') m news → Below w.heap.size w w' → K (a.put o.dst (.slice A' m c')) w') : if Region.wanted o (yielded ops a.tmps) = true then Oper.wp P o a w K Q else E := by
  have hw : Region.wanted o (yielded ops a.tmps) = true := by simp [Region.wanted, hgd]
  rw [if_pos hw]
  obtain ⟨A', c', w', hrun, h2, h3⟩ := run_append_lit0 (P := P) w base t o.type e i z size bytes ht hi hz hsize hby hzs hsz g hown B A m c news hr h63 hbytes hbase
  unfold Oper.wp execOp
  simp only [ho, resolve, invoke, builtin, Sem.run_bind, Sem.run_pure, Result.andThen_ok, List.map_toArray, List.map_cons, List.map_nil, hs, hx, hrun]
  exact h A' c' w' h2 (Grow.of_none h3)
/-- A call of a Go function as one step of a region that draws its order. -/
theorem step_call_go {P : Program} {ops : Array Oper} {o : Oper} {a : Act} {w : World} {K : Act → World → Prop} {Q : Exit → Act → World → Prop} {E : Prop} (hgd : o.guard = none) (f : FuncId) (xs : Array Operand) (ats : Array TypeId)
    (ho : o.op = .call { callee := .value (.func f), args := xs, argTypes := ats }) (args : Array Value) (hargs : xs.map a.eval = args) (hrun : (callFunc f args).run P w = .ok (.enter f args) w) (Φ : Value → World → Prop)
    (hC : Calls P f args w fun e w' => ∃ v, e = .returned v ∧ Φ v w') (h : ∀ v w', Φ v w' → K (a.put o.dst v) w') : if Region.wanted o (yielded ops a.tmps) = true then Oper.wp P o a w K Q else E := by
  have hw : Region.wanted o (yielded ops a.tmps) = true := by simp [Region.wanted, hgd]
  rw [if_pos hw]
  unfold Oper.wp
  have e : execOp a.eval o = callFunc f args := by
    obtain ⟨dst, op, ty, pos, after, guard⟩ := o
    dsimp only at ho
    subst ho
    rw [execOp_call_go, hargs]
    simp
  rw [e, hrun, Oper.upon_enter]
  refine hC.mono ?_
  rintro e' w' ⟨v, rfl, hΦ⟩
  exact h v w' hΦ
theorem run7 (args : Array Value) (w : World) : (callFunc 7 args).run Try.prog w = .ok (.enter 7 args) w := by
  have h := Try.func7
  simp [callFunc, go_sem, h, Try.f7]
theorem lit0_row (w : World) (base : Nat) (e : TypeId) (size : Nat) (hb : base ≤ w.heap.size) : Row (w.alloc (.cells #[] e)) base e size (.slice (some ⟨w.heap.size, 0, none⟩) 0 0) 0 [] := by
  obtain ⟨g, h1, h2⟩ := lit0_new w base e size hb
  exact h1 ▸ h2
def PuV (w : World) (P : Int × List Fo) (v : Value) (w' : World) : Prop :=
  ∃ A n c fs', v = .tuple #[.slice A n c, .int .i64 P.1] ∧ RF w' w'.heap.size A n fs' ∧ fs'.map Fo.says = P.2.map Fo.says ∧ Below w.heap.size w w'
theorem flat_take (fs : List Fo) : ∀ q, (fs.flatMap Fo.cells).take (q * 4) = (fs.take q).flatMap Fo.cells := by
  induction fs with
  | nil => intro q; simp
  | cons f fs ih =>
    intro q
    cases q with
    | zero => simp
    | succ q =>
      rw [List.flatMap_cons, List.take_succ_cons, List.flatMap_cons, ← ih q, List.take_append]
      have e : f.cells.length = 4 := rfl
      rw [e, List.take_of_length_le (by rw [e]; omega)]
      congr 2
      omega
theorem flat_drop (fs : List Fo) : ∀ q, (fs.flatMap Fo.cells).drop (q * 4) = (fs.drop q).flatMap Fo.cells := by
  induction fs with
  | nil => intro q; simp
  | cons f fs ih =>
    intro q
    cases q with
    | zero => simp
    | succ q =>
      rw [List.flatMap_cons, List.drop_succ_cons, ← ih q, List.drop_append]
      have e : f.cells.length = 4 := rfl
      rw [e, List.drop_of_length_le (by rw [e]; omega), List.nil_append]
      congr 1
      omega
theorem left_rf {w : World} {base n q c B : Nat} {A : Option Addr} {lib : List Fo} (hr : Row w base 37 4 (.slice A (q + (n - (q + 1))) c) (q + (n - (q + 1))) ((lib.flatMap Fo.cells).take (q * 4) ++ (lib.flatMap Fo.cells).drop ((q + 1) * 4))) (hn : lib.length = n) (hq : q < n)
    (hf : ∀ f ∈ lib, f.Full w B) (hB : B ≤ w.heap.size) : RF w w.heap.size A (q + (n - (q + 1))) (lib.eraseIdx q) := by
  rw [flat_take, flat_drop, ← List.flatMap_append, ← List.eraseIdx_eq_take_drop_succ] at hr
  refine ⟨⟨hr.reads, ?_⟩, fun f hf' => (hf f (List.mem_of_mem_eraseIdx hf')).more hB⟩
  rw [List.length_eraseIdx]; split <;> omega
theorem pu_call {m n q c5 nL cL B : Nat} {l lib : List Fo} {f : Fo} {w X w5 : World} {A A5 AL : Option Addr}
    (IH : ∀ (A A' : Option Addr) (n c n' c' : Nat) (l lib : List Fo) (w : World) (B : Nat), lib.length < m → RF w B A n l → RF w B A' n' lib → B ≤ w.heap.size → n ≤ 9223372036854775807 → n' ≤ 9223372036854775807 → n' ≤ c' → VarOk w → Calls Try.prog 7 #[.slice A n c, .slice A' n' c'] w (PuPost w (pull l lib)))
    (hl : ∀ W : World, Below w.heap.size w W → RF W B A n l) (hB : B ≤ w.heap.size) (hv : VarOk w) (hn : n ≤ 12) (hlib : (lib.eraseIdx q).length < m ∧ nL ≤ 12) (hc : nL ≤ cL) (hX : Below w.heap.size w X)
    (hL : RF X X.heap.size AL nL (lib.eraseIdx q)) (hr : Row w5 X.heap.size 37 4 (.slice A5 (n + 1) c5) (n + 1) (l.flatMap Fo.cells ++ f.cells)) (hb5 : Below X.heap.size X w5)
    (hp : f.Full X B ∧ pull l lib = pull (l ++ [f]) (lib.eraseIdx q)) : Calls Try.prog 7 #[.slice A5 (n + 1) c5, .slice AL nL cL] w5 (fun e w' => ∃ v, e = .returned v ∧ PuV w (pull l lib) v w') := by
  have hwX := hX.size
  have hX5 := hb5.size
  have hw5 := hX.trans (hb5.mono hwX)
  have hl5 := hl w5 hw5
  have h1 : RF w5 w5.heap.size A5 (n + 1) (l ++ [f]) := by
    refine ⟨⟨?_, by rw [List.length_append, hl5.len]; rfl⟩, fun f' hf' => ?_⟩
    · have e : (l ++ [f]).flatMap Fo.cells = l.flatMap Fo.cells ++ f.cells := by simp
      rw [e]; exact hr.reads
    · rcases List.mem_append.1 hf' with h | h
      · exact (hl5.2 f' h).more (by omega)
      · rw [List.mem_singleton.1 h]; exact (hp.1.below' hb5 (by omega)).more (by omega)
  have h2 : RF w5 w5.heap.size AL nL (lib.eraseIdx q) := (hL.below' hb5 (Nat.le_refl _)).more hX5
  refine (IH A5 AL (n + 1) c5 nL cL (l ++ [f]) (lib.eraseIdx q) w5 w5.heap.size hlib.1 h1 h2 (Nat.le_refl _) (by omega) (by omega) hc (hv.below hw5 hv.1)).mono ?_
  rintro e w' ⟨A, n, c, fs', rfl, hr, hs, hb⟩
  rw [hp.2]
  exact ⟨_, rfl, A, n, c, fs', rfl, hr, hs, hw5.trans (hb.mono hw5.size)⟩
theorem wrap64 {x : Int} (h0 : -9223372036854775808 ≤ x) (h1 : x < 9223372036854775808) : IntKind.i64.wrap x = x := by
  simp [IntKind.wrap, IntKind.bits, IntKind.signed]; omega
theorem one_drop (lib : List Fo) (k : Nat) : ∀ u ∈ (lib.flatMap Fo.cells).drop (k * 4), u.oneCell' = true := by
  intro u hu
  obtain ⟨f, _, hf⟩ := List.mem_flatMap.1 (List.mem_of_mem_drop hu)
  exact one_fo f u hf
set_option maxHeartbeats 2000000 in
set_option maxRecDepth 100000 in
theorem bindPull_any (hchk : ∀ (o : Ob) (w : World) (B : Nat), o.Read w B → B ≤ w.heap.size → o.n2 ≤ o.c2 → o.c2 ≤ 9223372036854775807 → Calls Try.prog 16 #[.agg o.vals] w (ErrPost w (objErr o))) (m : Nat) :
    ∀ (A A' : Option Addr) (n c n' c' : Nat) (l lib : List Fo) (w : World) (B : Nat), lib.length < m → RF w B A n l → RF w B A' n' lib → B ≤ w.heap.size → n ≤ 9223372036854775807 → n' ≤ 9223372036854775807 → n' ≤ c' → VarOk w → Calls Try.prog 7 #[.slice A n c, .slice A' n' c'] w (PuPost w (pull l lib)) := by
  induction m with
  | zero => intros; omega
  | succ m IH =>
    intro A A' n c n' c' l lib w B hm h h' hB hn hn' hcc hv
    obtain ⟨iF, hiF, hzF0, hzF1, hzF2⟩ := info_parts infoF
    have HL := Lib.hid h.len
    have HN := Lib.hid h'.len
    have HIH := Lib.hid IH
    have HV := Lib.hid hv
    have HFB := Lib.hid hB
    have hlm : lib.length ≤ m := by omega
    have HLM := Lib.hid hlm
    clear IH hm hlm
    have HC := Lib.hid (partsFault_any hchk A' n' c' (osOf lib) w B h'.ro hB hn')
    unfold ErrPost at HC
    have HLR := Lib.hid (fun (W : World) (hb : Below w.heap.size w W) => h.below' hb hB)
    have HLB := Lib.hid (fun (W : World) (hb : Below w.heap.size w W) => h'.below' hb hB)
    have HLK := Lib.hid (fun (W : World) (hb : Below w.heap.size w W) => bindLacks_any hchk A n c (osOf l) W B (h.below' hb hB).ro (by have := hb.size; omega) hn (hv.below hb hv.1))
    clear hv
    by_cases hE : partsErr (osOf lib) = 0
    rotate_left
    · have he := Lib.hid (show pull l lib = (partsErr (osOf lib), []) from pullE_lib hE)
      generalize partsErr (osOf lib) = E at *
      have d : (E != 0) = true := by simpa using hE
      clear hE
      go_enter Try.func7, Try.ntmps7
      go_wp2_with fail
      refine HC.out.mono ?_
      rintro e' w3 ⟨rfl, hb3⟩
      go_wp2
      go_ret2
      exact PuPost.bad he.out hb3
    rw [hE] at HC
    have HE := Lib.hid hE
    have hl12 : (osOf lib).length ≤ 12 := (parts_zero hE).1
    have hn12 : n' ≤ 12 := by rw [← HN.out]; simpa [osOf] using hl12
    clear hE hl12
    by_cases hE2 : partsErr (osOf l) = 0
    rotate_left
    · have he := Lib.hid (show pull l lib = (partsErr (osOf l), []) from pullE_l HE.out hE2)
      unfold LkPost at HLK
      generalize partsErr (osOf l) = E at *
      have d : (E != 0) = true := by simpa using hE2
      clear hE2
      go_enter Try.func7, Try.ntmps7
      go_wp2_with fail
      refine HC.out.mono ?_
      rintro e' w3 ⟨rfl, hb3⟩
      go_wp2_with fail
      refine (HLK.out w3 hb3).mono ?_
      rintro e' w6 ⟨v6, rfl, hr6, hb6⟩
      have hfin := Lib.hid (PuPost.bad he.out (hb3.trans (hb6.mono hb3.size)))
      clear hr6
      go_wp2
      go_ret2
      exact hfin.out
    unfold LkPost at HLK
    rw [hE2] at HLK
    have HE2 := Lib.hid hE2
    have hn12l : n ≤ 12 := by
      have := (parts_zero hE2).1
      rw [← HL.out]; simpa [osOf] using this
    have HGF := Lib.hid (fun o ho => (parts_good hE2).2 o ho)
    clear hE2
    go_enter Try.func7, Try.ntmps7
    go_wp2_with fail
    refine HC.out.mono ?_
    rintro e' w3 ⟨rfl, hb3⟩
    go_wp2_with fail
    refine (HLK.out w3 hb3).mono ?_
    rintro e' w6 ⟨v6, rfl, hr6, hb6⟩
    obtain ⟨A6, c6, rfl, hc61, hc62⟩ := hr6.shape
    unfold maxLen at hc62
    have hs3 := hb3.size
    have hs6 := hb6.size
    have hw6 := Lib.hid (hb3.trans (hb6.mono hs3))
    have hsw6 : w.heap.size ≤ w6.heap.size := by omega
    have hrd6 := Lib.hid hr6.reads
    have HLQ : Hid (∀ s ∈ lkL (osOf l), s.size ≤ 9223372036854775807) := Lib.hid (fun s hs => by
      unfold lkL at hs
      rw [if_pos HE2.out] at hs
      have := needs_good (fun o ho => HGF.out o ho) s (lacks_mem _ _ s hs)
      have := good_size this
      omega)
    obtain ⟨Lq, hLq⟩ : ∃ Lq, Lq = lkL (osOf l) := ⟨_, rfl⟩
    rw [← hLq] at hr6 HLQ hc61 hrd6 ⊢
    have HLQE := Lib.hid hLq
    have h6lib := Lib.hid (HLB.out w6 hw6.out)
    clear hLq hr6 hb6 hb3 HLK HC
    generalize hll : Lq.length = ll at *
    have HLL := Lib.hid hll
    clear hll
    go_wp2
    go_loopw [31] (fun i w' => ∃ k : Nat, k ≤ ll ∧ i = .int .i64 k ∧ Below w6.heap.size w6 w' ∧ Hid (pickR (Lq.take k) lib = none)) (fun i _ => ll - (intOf i).toNat)
    case atStart => exact ⟨0, by omega, rfl, Below.refl _ _, Lib.hid rfl⟩
    case round =>
      obtain ⟨k, hk, rfl, hbk, hpk⟩ := hrel
      obtain ⟨W7, hW7⟩ : ∃ W7, W7 = wr := ⟨_, rfl⟩
      subst hW7
      have hs7 := hbk.size
      by_cases hkl : k < ll
      rotate_left
      · obtain rfl : k = ll := by omega
        have hfin : Hid (PuPost w (pull l lib) (.returned (.tuple #[.slice A n c, .int .i64 0])) W7) := Lib.hid (by
          have hw7 := hw6.out.trans (hbk.mono hsw6)
          refine PuPost.good (pull_none HE.out HE2.out ?_) ((HLR.out W7 hw7).more (by omega)) rfl hw7
          rw [← HLQE.out, ← hpk.out, List.take_of_length_le]
          rw [HLL.out]; exact Nat.le_refl _)
        clear hbk
        go_wp2
        go_ret2
        exact hfin.out
      · obtain ⟨b, o, u, rfl, hb, hu, hc⟩ := (Reads.below' hrd6.out hbk (Nat.le_refl _)).at_ hkl
        have hsk : Lq[k]? = some (Lq.getD k ByteArray.empty) := by simp [List.getD, List.getElem?_eq_getElem (by rw [HLL.out]; exact hkl : k < Lq.length)]
        rw [List.getElem?_map, hsk] at hu
        have hu' : u = .string (Lq.getD k ByteArray.empty) := by simpa using hu.symm
        subst hu'
        have hss := HLQ.out _ (List.mem_of_getElem? hsk)
        generalize Lq.getD k ByteArray.empty = s at *
        have HSK := Lib.hid hsk
        have hb6g : b < W7.heap.size := by omega
        clear hu hsk
        go_wp2
        go_loopw [37] (fun i w' => ∃ q : Nat, q ≤ n' ∧ i = .int .i64 q ∧ Below w6.heap.size w6 w' ∧ Hid (∀ j, j < q → ∀ f, lib[j]? = some f → hasF s f = false)) (fun i _ => n' - (intOf i).toNat)
        case atStart => exact ⟨0, by omega, rfl, hbk, Lib.hid (fun j hj => by omega)⟩
        case round =>
          clear hbk hs7 hb6g hc
          obtain ⟨q, hq, rfl, hbq, hno⟩ := hrel
          rename World => W9
          have hs9 := hbq.size
          by_cases hql : q < n'
          rotate_left
          · obtain rfl : q = n' := by omega
            have hnew : Hid (pickR (Lq.take (k + 1)) lib = none) := Lib.hid (pickR_step hpk.out HSK.out (by rw [HN.out]; exact hno.out))
            go_wp2
            go_roundw
            case rel => exact ⟨k + 1, by omega, by go_num, hbq, hnew⟩
            case measure => simp [intOf]; omega
          · obtain ⟨b2, o2, f, rfl, hb2, hf, hfull, z0, z1, z2, z3⟩ := (h6lib.out.below' hbq (by omega)).at_ hql
            have HF := Lib.hid hf
            have HFU := Lib.hid hfull
            have hb2g : b2 < W9.heap.size := by omega
            clear hf hfull
            obtain ⟨⟨A0, n0, c0, A1, n1, c1, A2, n2, c2, A3, n3, c3, ns, ds⟩, ws, bs⟩ := f
            dsimp only at z0 z1 z2 z3
            have HNS := Lib.hid (fun (W : World) (hb : Below W9.heap.size W9 W) => HFU.out.fine.rd.ns.below' hb (show B ≤ W9.heap.size by omega))
            have HNL := Lib.hid (HNS.out W9 (Below.refl _ _)).len
            dsimp only at HNS HNL
            have hm2 := HFU.out.fine.rd.m2
            dsimp only at hm2
            have hx9 : Below W9.heap.size W9 (W9.alloc (.cells #[.slice A0 n0 c0, .slice A1 n1 c1, .slice A2 n2 c2, .slice A3 n3 c3] 37)) := (Below.refl _ _).alloc (Nat.le_refl _) _
            have hblk := Blk.new W9 #[.slice A0 n0 c0, .slice A1 n1 c1, .slice A2 n2 c2, .slice A3 n3 c3] 37
            have hblkc := hblk.cell
            go_wp2
            go_loopw [45] (fun i w' => ∃ j : Nat, j ≤ n2 ∧ i = .int .i64 j ∧ Below W9.heap.size W9 w' ∧ Blk w' W9.heap.size #[.slice A0 n0 c0, .slice A1 n1 c1, .slice A2 n2 c2, .slice A3 n3 c3] 37 ∧ Hid (hasK (ns.take j) s.data.toList = false)) (fun i _ => n2 - (intOf i).toNat)
            case atStart => exact ⟨0, by omega, rfl, hx9, hblk, Lib.hid rfl⟩
            case round =>
              clear hx9 hblk hblkc z0 z1 z2 z3
              obtain ⟨j, hj, rfl, hbw, hblk, hnk⟩ := hrel
              rename World => W11
              have hsw := hbw.size
              have hb11 := hbq.trans (hbw.mono hs9)
              by_cases hlt : j < n2
              rotate_left
              · obtain rfl : j = n2 := by omega
                have hnew : Hid (∀ j', j' < q + 1 → ∀ f, lib[j']? = some f → hasF s f = false) := Lib.hid (fun j' hj' f' hf' => by
                  rcases Nat.lt_or_ge j' q with h1 | h1
                  · exact hno.out j' h1 f' hf'
                  · obtain rfl : j' = q := by omega
                    rw [HF.out] at hf'
                    injection hf' with hf'
                    subst hf'
                    have := hnk.out
                    rw [← HNL.out, List.take_length] at this
                    exact this)
                clear hblk hbw
                go_wp2
                go_roundw
                case rel => exact ⟨q + 1, by omega, by go_num, hb11, hnew⟩
                case measure => simp [intOf]; omega
              · obtain ⟨b3, o3, rfl, hb3', hfn, y0, y1, y2, y3⟩ := (HNS.out W11 hbw).at_ hlt
                have hxq : ns[j]? = some (ns.getD j .zero) := by simp [List.getD, List.getElem?_eq_getElem (by rw [HNL.out]; exact hlt : j < ns.length)]
                generalize ns.getD j .zero = nm at *
                obtain ⟨s2, wh, ad, wk⟩ := nm
                obtain ⟨hs2, _, _⟩ := hfn
                dsimp only at y0 y1 y2 y3 hs2
                have hke : (s2.toList == s.toList) = decide (s2.data.toList = s.data.toList) := key_eq
                have hbY : Below w6.heap.size w6 (W11.alloc (.cells #[.string s2, .int .i64 wh, .int .i64 ad, .bool wk] 39)) := hb11.alloc (by omega) _
                have hbZ := hbw.alloc hsw (.cells #[.string s2, .int .i64 wh, .int .i64 ad, .bool wk] 39)
                have hblkY := hblk.fr (Fr.of_grow (Grow.alloc W11 (.cells #[.string s2, .int .i64 wh, .int .i64 ad, .bool wk] 39))) (fun h => h)
                have hb3g : b3 < W11.heap.size := by omega
                by_cases hkk : s2.data.toList = s.data.toList
                rotate_left
                · have e := Lib.hid (hasK_step hxq (show Nm.key ⟨s2, wh, ad, wk⟩ ≠ s.data.toList from hkk) hnk.out)
                  rw [decide_eq_false hkk] at hke
                  clear hkk hxq hbY
                  go_wp2
                  go_roundw
                  case rel => exact ⟨j + 1, by omega, by go_num, hbZ, hblkY, e⟩
                  case measure => simp [intOf]; omega
                · have e := Lib.hid (hasK_hit hxq (show Nm.key ⟨s2, wh, ad, wk⟩ = s.data.toList from hkk))
                  rw [decide_eq_true hkk] at hke
                  have HPK := Lib.hid (pull_some HE.out HE2.out (by rw [← HLQE.out]; exact pickR_hit hpk.out HSK.out HF.out e.out hno.out) HF.out)
                  have hnlib : Hid ((lib.eraseIdx q).length < m ∧ q + (n' - (q + 1)) ≤ 12) := Lib.hid (by
                    refine ⟨?_, by omega⟩
                    rw [List.length_eraseIdx, if_pos (by rw [HN.out]; exact hql)]
                    have := HLM.out
                    have := HN.out
                    omega)
                  obtain ⟨Y, hY⟩ : ∃ Y, Y = W11.alloc (.cells #[.string s2, .int .i64 wh, .int .i64 ad, .bool wk] 39) := ⟨_, rfl⟩
                  rw [← hY] at hbY hblkY hbZ
                  have HY := Lib.hid hY
                  have hsY := hbY.size
                  have hwY := Lib.hid (hw6.out.trans (hbY.mono hsw6))
                  have hrfY := HLB.out Y hwY.out
                  have HFL := Lib.hid hrfY.2
                  have HP := Lib.hid (((hrfY.1.1).take hq).below' (((Below.refl Y.heap.size Y).drew).alloc (by simp) (.cells #[] 37)) (by omega))
                  have HSS := (hrfY.1.1).cut (k := q + 1) hql hcc
                  have HONE := Lib.hid (one_drop lib (q + 1))
                  have hbE : Hid (Below Y.heap.size Y (Y.drew.alloc (.cells #[] 37))) := Lib.hid (((Below.refl Y.heap.size Y).drew).alloc (by simp) _)
                  have hl0 : Hid (Row (Y.drew.alloc (.cells #[] 37)) Y.heap.size 37 4 (.slice (some ⟨Y.heap.size, 0, none⟩) 0 0) 0 []) := Lib.hid (lit0_row Y.drew Y.heap.size 37 4 (by simp))
                  have hBY : B ≤ Y.heap.size := by omega
                  clear hkk hxq hY hbZ hblk hbw hrfY hb11 hbq
                  by_cases hcq : c' = q + 1
                  · rw [if_pos hcq] at HSS
                    obtain rfl : n' = q + 1 := by omega
                    subst hcq
                    have hqi : (q : Int) ≤ (q : Int) + 1 := by omega
                    have hqw : IntKind.i64.wrap ((q : Int) + 1) = (q : Int) + 1 := wrap64 (by omega) (by omega)
                    have hqt : ((q : Int) + 1).toNat = q + 1 := by omega
                    have hqk : (0 : Int) ≤ (q : Int) + 1 := by omega
                    have HS := Lib.hid HSS
                    clear HSS
                    go_wp2_with fail
                    rw [← HY.out]
                    go_region_law (first | (refine step_append_lit0 rfl (.tmp 53) (.tmp 56) 22 rfl Y.heap.size 37 iF (.agg #[.slice none 0 0, .slice none 0 0, .slice none 0 0, .slice none 0 0]) 4 96 Try.underlying22 hiF hzF0 hzF1 hzF2 rfl (by decide) Y.heap.size (by simp [Act.eval, Act.put]) hl0.out B (some ⟨b2, o2, none⟩) q (q + 1) ((lib.flatMap Fo.cells).take (q * 4)) (by simp [Act.eval, Act.put]) HP.out (by unfold maxLen; omega) (by omega) (by simp) ?_; intro A8 c8 w8 hr8 hb8; have HS8 := Lib.hid (HS.out.below' (hbE.out.trans (hb8.mono (by simp))) (by omega)); have hs8 := hb8.size; have HB8 := Lib.hid (hbE.out.trans (hb8.mono (by simp)))) | (refine step_append_row rfl (.tmp 57) (.tmp 61) 22 rfl Y.heap.size 37 iF (.agg #[.slice none 0 0, .slice none 0 0, .slice none 0 0, .slice none 0 0]) 4 96 Try.underlying22 hiF hzF0 hzF1 hzF2 rfl (by decide) (.slice A8 q c8) q ((lib.flatMap Fo.cells).take (q * 4)) (by simp [Act.eval, Act.put]) hr8 B (some ⟨b2, o2, none⟩) ((q + 1) - (q + 1)) (q + 1 - (q + 1)) ((lib.flatMap Fo.cells).drop ((q + 1) * 4)) (by simp [Act.eval, Act.put]) HS8.out HONE.out (by unfold maxLen; omega) (by omega) (by have := HB8.out.size; omega) ?_; intro A9 c9 w9 hr9 hg9 ho9) | fail)
                    have hbY9 : Below Y.heap.size Y w9 := HB8.out.grown hg9 (by have := HB8.out.size; omega) (fun k hk => (hr8.lt k hk).1)
                    have HL9 : Hid (RF w9 w9.heap.size A9 (q + ((q + 1) - (q + 1))) (lib.eraseIdx q)) := Lib.hid (left_rf hr9 HN.out hql (fun f' hf' => (HFL.out f' hf').below' hbY9 (by omega)) (by have := hbY9.size; omega))
                    have hq9 : q + ((q + 1) - (q + 1)) ≤ c9 := (show ∃ Ax cx, (Value.slice A9 (q + ((q + 1) - (q + 1))) c9) = .slice Ax (q + ((q + 1) - (q + 1))) cx ∧ q + ((q + 1) - (q + 1)) ≤ cx ∧ cx ≤ maxLen from hr9.shape).elim fun Ax h => h.elim fun cx h => by
                      obtain ⟨e, h1, h2⟩ := h
                      injection e with e1 e2 e3
                      rw [e3]; exact h1
                    have hblkX := hblkY.fr (Fr.of_grow hbY9) (fun h => h)
                    have hbX := hbY.trans (hbY9.mono hsY)
                    have hsX := hbX.size
                    clear hr8 hb8 HS8 hs8 HB8 hr9 hg9 ho9 hblkY hbY9
                    obtain ⟨X, hX⟩ : ∃ X, X = w9 := ⟨_, rfl⟩
                    subst hX
                    have hwX : w.heap.size ≤ X.heap.size := by omega
                    have hBX : B ≤ X.heap.size := by omega
                    have RL : Hid (Reads X B 4 A n (l.flatMap Fo.cells)) := Lib.hid (HLR.out X (hw6.out.trans (hbX.mono hsw6))).1.1
                    have HCAL := Lib.hid (fun (A5 : Option Addr) (c5 : Nat) (w5 : World) (hr5 : Row w5 X.heap.size 37 4 (.slice A5 (n + 1) c5) (n + 1) (l.flatMap Fo.cells ++ Fo.cells ⟨⟨A0, n0, c0, A1, n1, c1, some ⟨b3, o3, none⟩, n2, c2, A3, n3, c3, ns, ds⟩, ws, bs⟩)) (hb5 : Below X.heap.size X w5) => pu_call HIH.out HLR.out HFB.out HV.out hn12l hnlib.out hq9 (hw6.out.trans (hbX.mono hsw6)) HL9.out hr5 hb5 ⟨(HLB.out X (hw6.out.trans (hbX.mono hsw6))).2 _ (List.mem_of_getElem? HF.out), HPK.out⟩)
                    have L1 : Hid (Row (X.drew.alloc (.cells #[] 37)) X.heap.size 37 4 (.slice (some ⟨X.heap.size, 0, none⟩) 0 0) 0 []) := Lib.hid (lit0_row X.drew X.heap.size 37 4 (by simp))
                    have L2 : Hid (Row ((X.drew.alloc (.cells #[] 37)).alloc (.cells #[.slice A0 n0 c0, .slice A1 n1 c1, .slice (some ⟨b3, o3, none⟩) n2 c2, .slice A3 n3 c3] 37)) X.heap.size 37 4 (.slice (some ⟨X.heap.size, 0, none⟩) 0 0) 0 []) := Lib.hid (L1.out.alloc _)
                    have L3 : Hid (Row ((X.drew.alloc (.cells #[.slice A0 n0 c0, .slice A1 n1 c1, .slice (some ⟨b3, o3, none⟩) n2 c2, .slice A3 n3 c3] 37)).alloc (.cells #[] 37)) X.heap.size 37 4 (.slice (some ⟨X.heap.size + 1, 0, none⟩) 0 0) 0 []) := Lib.hid (by
                      have := lit0_row (X.drew.alloc (.cells #[.slice A0 n0 c0, .slice A1 n1 c1, .slice (some ⟨b3, o3, none⟩) n2 c2, .slice A3 n3 c3] 37)) X.heap.size 37 4 (by simp)
                      simpa using this)
                    have XB1 : Hid (Below X.heap.size X (X.drew.alloc (.cells #[] 37))) := Lib.hid (((Below.refl _ _).drew).alloc (by simp) _)
                    have XB2 : Hid (Below X.heap.size X ((X.drew.alloc (.cells #[] 37)).alloc (.cells #[.slice A0 n0 c0, .slice A1 n1 c1, .slice (some ⟨b3, o3, none⟩) n2 c2, .slice A3 n3 c3] 37))) := Lib.hid (XB1.out.alloc (by simp) _)
                    have XB3 : Hid (Below X.heap.size X ((X.drew.alloc (.cells #[.slice A0 n0 c0, .slice A1 n1 c1, .slice (some ⟨b3, o3, none⟩) n2 c2, .slice A3 n3 c3] 37)).alloc (.cells #[] 37))) := Lib.hid ((((Below.refl _ _).drew).alloc (by simp) _).alloc (by simp) _)
                    have bx2 : Hid (Blk ((X.drew.alloc (.cells #[] 37)).alloc (.cells #[.slice A0 n0 c0, .slice A1 n1 c1, .slice (some ⟨b3, o3, none⟩) n2 c2, .slice A3 n3 c3] 37)) (X.heap.size + 1) (Fo.cells ⟨⟨A0, n0, c0, A1, n1, c1, some ⟨b3, o3, none⟩, n2, c2, A3, n3, c3, ns, ds⟩, ws, bs⟩).toArray 37) := Lib.hid (by
                      have := Blk.new (X.drew.alloc (.cells #[] 37)) #[.slice A0 n0 c0, .slice A1 n1 c1, .slice (some ⟨b3, o3, none⟩) n2 c2, .slice A3 n3 c3] 37
                      rw [show (X.drew.alloc (.cells #[] 37)).heap.size = X.heap.size + 1 by simp] at this
                      exact this)
                    have bx3 : Hid (Blk ((X.drew.alloc (.cells #[.slice A0 n0 c0, .slice A1 n1 c1, .slice (some ⟨b3, o3, none⟩) n2 c2, .slice A3 n3 c3] 37)).alloc (.cells #[] 37)) X.heap.size (Fo.cells ⟨⟨A0, n0, c0, A1, n1, c1, some ⟨b3, o3, none⟩, n2, c2, A3, n3, c3, ns, ds⟩, ws, bs⟩).toArray 37) := Lib.hid ((Blk.new X.drew #[.slice A0 n0 c0, .slice A1 n1 c1, .slice (some ⟨b3, o3, none⟩) n2 c2, .slice A3 n3 c3] 37).fr (Fr.of_grow (Grow.alloc _ _)) (fun h => h))
                    have kX := hblkX.cell
                    have kXl := hblkX.lt
                    clear hbX
                    go_wp2_with fail
                    go_region_law (first | (refine step_append_lit0 rfl (.tmp 63) (.tmp 64) 22 rfl X.heap.size 37 iF (.agg #[.slice none 0 0, .slice none 0 0, .slice none 0 0, .slice none 0 0]) 4 96 Try.underlying22 hiF hzF0 hzF1 hzF2 rfl (by decide) X.heap.size (by simp [Act.eval, Act.put]) L1.out B A n c (l.flatMap Fo.cells) (by simp [Act.eval, Act.put]) (RL.out.below' XB1.out hBX) (by unfold maxLen; omega) (by omega) (by simp; try omega) ?_; intro A7 c7 w7 hr7 hb7; have K7 := Lib.hid (XB1.out.trans (hb7.mono (by simp; try omega))); have k7 := (hblkX.fr (Fr.of_grow K7.out) (fun h => h)).cell; have k7l := (hblkX.fr (Fr.of_grow K7.out) (fun h => h)).lt; have hs7 := K7.out.size) | (refine step_append_lit0 rfl (.tmp 63) (.tmp 64) 22 rfl X.heap.size 37 iF (.agg #[.slice none 0 0, .slice none 0 0, .slice none 0 0, .slice none 0 0]) 4 96 Try.underlying22 hiF hzF0 hzF1 hzF2 rfl (by decide) X.heap.size (by simp [Act.eval, Act.put]) L2.out B A n c (l.flatMap Fo.cells) (by simp [Act.eval, Act.put]) (RL.out.below' XB2.out hBX) (by unfold maxLen; omega) (by omega) (by simp; try omega) ?_; intro A7 c7 w7 hr7 hb7; have K7 := Lib.hid (XB2.out.trans (hb7.mono (by simp; try omega))); have k7 := (hblkX.fr (Fr.of_grow K7.out) (fun h => h)).cell; have k7l := (hblkX.fr (Fr.of_grow K7.out) (fun h => h)).lt; have hs7 := K7.out.size; have bx7 := bx2.out.fr (Fr.of_grow hb7) (fun h => h)) | (refine step_append_lit0 rfl (.tmp 63) (.tmp 64) 22 rfl X.heap.size 37 iF (.agg #[.slice none 0 0, .slice none 0 0, .slice none 0 0, .slice none 0 0]) 4 96 Try.underlying22 hiF hzF0 hzF1 hzF2 rfl (by decide) (X.heap.size + 1) (by simp [Act.eval, Act.put]) L3.out B A n c (l.flatMap Fo.cells) (by simp [Act.eval, Act.put]) (RL.out.below' XB3.out hBX) (by unfold maxLen; omega) (by omega) (by simp; try omega) ?_; intro A7 c7 w7 hr7 hb7; have K7 := Lib.hid (XB3.out.trans (hb7.mono (by simp; try omega))); have k7 := (hblkX.fr (Fr.of_grow K7.out) (fun h => h)).cell; have k7l := (hblkX.fr (Fr.of_grow K7.out) (fun h => h)).lt; have hs7 := K7.out.size; have bx7 := bx3.out.fr (Fr.of_grow hb7) (fun h => h)) | (refine step_append_row rfl (.tmp 65) (.tmp 67) 22 rfl X.heap.size 37 iF (.agg #[.slice none 0 0, .slice none 0 0, .slice none 0 0, .slice none 0 0]) 4 96 Try.underlying22 hiF hzF0 hzF1 hzF2 rfl (by decide) (.slice A7 n c7) n (l.flatMap Fo.cells) (by simp [Act.eval, Act.put]) (hr7.alloc _) (w7.heap.size + 1) (some ⟨w7.heap.size, 0, none⟩) 1 1 (Fo.cells ⟨⟨A0, n0, c0, A1, n1, c1, some ⟨b3, o3, none⟩, n2, c2, A3, n3, c3, ns, ds⟩, ws, bs⟩) (by simp [Act.eval, Act.put]) (lk_reads w7 37 4 1 (Fo.cells ⟨⟨A0, n0, c0, A1, n1, c1, some ⟨b3, o3, none⟩, n2, c2, A3, n3, c3, ns, ds⟩, ws, bs⟩) rfl) (one_fo ⟨⟨A0, n0, c0, A1, n1, c1, some ⟨b3, o3, none⟩, n2, c2, A3, n3, c3, ns, ds⟩, ws, bs⟩) (by unfold maxLen; omega) (by omega) (by first | omega | (simp; omega)) ?_; intro A5 c5 w5 hr5 hg5 ho5; have hcal := HCAL.out A5 c5 w5 hr5 ((K7.out.alloc hs7 _).grown hg5 (by simp; omega) (fun k hk => (hr7.lt k hk).1))) | (refine step_append_row rfl (.tmp 65) (.tmp 67) 22 rfl X.heap.size 37 iF (.agg #[.slice none 0 0, .slice none 0 0, .slice none 0 0, .slice none 0 0]) 4 96 Try.underlying22 hiF hzF0 hzF1 hzF2 rfl (by decide) (.slice A7 n c7) n (l.flatMap Fo.cells) (by simp [Act.eval, Act.put]) hr7 w7.heap.size (some ⟨(X.heap.size + 1), 0, none⟩) 1 1 (Fo.cells ⟨⟨A0, n0, c0, A1, n1, c1, some ⟨b3, o3, none⟩, n2, c2, A3, n3, c3, ns, ds⟩, ws, bs⟩) (by simp [Act.eval, Act.put]) (buf_reads rfl bx7.lt (fun i u hu => (bx7.cell i).trans (by simpa using hu))) (one_fo ⟨⟨A0, n0, c0, A1, n1, c1, some ⟨b3, o3, none⟩, n2, c2, A3, n3, c3, ns, ds⟩, ws, bs⟩) (by unfold maxLen; omega) (by omega) (by first | omega | (simp; omega)) ?_; intro A5 c5 w5 hr5 hg5 ho5; have hcal := HCAL.out A5 c5 w5 hr5 (K7.out.grown hg5 hs7 (fun k hk => (hr7.lt k hk).1))) | (refine step_append_row rfl (.tmp 65) (.tmp 67) 22 rfl X.heap.size 37 iF (.agg #[.slice none 0 0, .slice none 0 0, .slice none 0 0, .slice none 0 0]) 4 96 Try.underlying22 hiF hzF0 hzF1 hzF2 rfl (by decide) (.slice A7 n c7) n (l.flatMap Fo.cells) (by simp [Act.eval, Act.put]) hr7 w7.heap.size (some ⟨X.heap.size, 0, none⟩) 1 1 (Fo.cells ⟨⟨A0, n0, c0, A1, n1, c1, some ⟨b3, o3, none⟩, n2, c2, A3, n3, c3, ns, ds⟩, ws, bs⟩) (by simp [Act.eval, Act.put]) (buf_reads rfl bx7.lt (fun i u hu => (bx7.cell i).trans (by simpa using hu))) (one_fo ⟨⟨A0, n0, c0, A1, n1, c1, some ⟨b3, o3, none⟩, n2, c2, A3, n3, c3, ns, ds⟩, ws, bs⟩) (by unfold maxLen; omega) (by omega) (by first | omega | (simp; omega)) ?_; intro A5 c5 w5 hr5 hg5 ho5; have hcal := HCAL.out A5 c5 w5 hr5 (K7.out.grown hg5 hs7 (fun k hk => (hr7.lt k hk).1))) | (refine step_call_go rfl 7 #[.tmp 68, .tmp 69] #[22, 22] rfl #[.slice A5 (n + 1) c5, .slice A9 (q + ((q + 1) - (q + 1))) c9] (by simp [Act.eval, Act.put]) (run7 _ _) (PuV w (pull l lib)) hcal ?_; rintro v4 w4 ⟨A4, n4, c4, fs4, rfl, hr4, hs4, hb4⟩) | fail)
                    all_goals
                      have hfin : Hid (PuPost w (pull l lib) (.returned (.tuple #[.slice A4 n4 c4, .int .i64 (pull l lib).1])) w4) := Lib.hid ⟨A4, n4, c4, fs4, rfl, hr4, hs4, hb4⟩
                      clear hr4 hs4 hb4
                      go_wp2
                      go_ret2
                      exact hfin.out
                  · rw [if_neg hcq] at HSS
                    simp only [Option.map_some, add_plain] at HSS
                    have hqi : (q : Int) ≤ (c' : Int) := by omega
                    have hqj : (q : Int) + 1 ≤ (n' : Int) := by omega
                    have hqw : IntKind.i64.wrap ((q : Int) + 1) = (q : Int) + 1 := wrap64 (by omega) (by omega)
                    have hqt : ((q : Int) + 1).toNat = q + 1 := by omega
                    have hqk : (0 : Int) ≤ (q : Int) + 1 := by omega
                    have HS := Lib.hid HSS
                    clear HSS
                    go_wp2_with fail
                    rw [← HY.out]
                    go_region_law (first | (refine step_append_lit0 rfl (.tmp 53) (.tmp 56) 22 rfl Y.heap.size 37 iF (.agg #[.slice none 0 0, .slice none 0 0, .slice none 0 0, .slice none 0 0]) 4 96 Try.underlying22 hiF hzF0 hzF1 hzF2 rfl (by decide) Y.heap.size (by simp [Act.eval, Act.put]) hl0.out B (some ⟨b2, o2, none⟩) q c' ((lib.flatMap Fo.cells).take (q * 4)) (by simp [Act.eval, Act.put]) HP.out (by unfold maxLen; omega) (by omega) (by simp) ?_; intro A8 c8 w8 hr8 hb8; have HS8 := Lib.hid (HS.out.below' (hbE.out.trans (hb8.mono (by simp))) (by omega)); have hs8 := hb8.size; have HB8 := Lib.hid (hbE.out.trans (hb8.mono (by simp)))) | (refine step_append_row rfl (.tmp 57) (.tmp 61) 22 rfl Y.heap.size 37 iF (.agg #[.slice none 0 0, .slice none 0 0, .slice none 0 0, .slice none 0 0]) 4 96 Try.underlying22 hiF hzF0 hzF1 hzF2 rfl (by decide) (.slice A8 q c8) q ((lib.flatMap Fo.cells).take (q * 4)) (by simp [Act.eval, Act.put]) hr8 B (some ⟨b2, o2 + (q + 1) * 4, none⟩) (n' - (q + 1)) (c' - (q + 1)) ((lib.flatMap Fo.cells).drop ((q + 1) * 4)) (by simp [Act.eval, Act.put]) HS8.out HONE.out (by unfold maxLen; omega) (by omega) (by have := HB8.out.size; omega) ?_; intro A9 c9 w9 hr9 hg9 ho9) | fail)
                    have hbY9 : Below Y.heap.size Y w9 := HB8.out.grown hg9 (by have := HB8.out.size; omega) (fun k hk => (hr8.lt k hk).1)
                    have HL9 : Hid (RF w9 w9.heap.size A9 (q + (n' - (q + 1))) (lib.eraseIdx q)) := Lib.hid (left_rf hr9 HN.out hql (fun f' hf' => (HFL.out f' hf').below' hbY9 (by omega)) (by have := hbY9.size; omega))
                    have hq9 : q + (n' - (q + 1)) ≤ c9 := (show ∃ Ax cx, (Value.slice A9 (q + (n' - (q + 1))) c9) = .slice Ax (q + (n' - (q + 1))) cx ∧ q + (n' - (q + 1)) ≤ cx ∧ cx ≤ maxLen from hr9.shape).elim fun Ax h => h.elim fun cx h => by
                      obtain ⟨e, h1, h2⟩ := h
                      injection e with e1 e2 e3
                      rw [e3]; exact h1
                    have hblkX := hblkY.fr (Fr.of_grow hbY9) (fun h => h)
                    have hbX := hbY.trans (hbY9.mono hsY)
                    have hsX := hbX.size
                    clear hr8 hb8 HS8 hs8 HB8 hr9 hg9 ho9 hblkY hbY9
                    obtain ⟨X, hX⟩ : ∃ X, X = w9 := ⟨_, rfl⟩
                    subst hX
                    have hwX : w.heap.size ≤ X.heap.size := by omega
                    have hBX : B ≤ X.heap.size := by omega
                    have RL : Hid (Reads X B 4 A n (l.flatMap Fo.cells)) := Lib.hid (HLR.out X (hw6.out.trans (hbX.mono hsw6))).1.1
                    have HCAL := Lib.hid (fun (A5 : Option Addr) (c5 : Nat) (w5 : World) (hr5 : Row w5 X.heap.size 37 4 (.slice A5 (n + 1) c5) (n + 1) (l.flatMap Fo.cells ++ Fo.cells ⟨⟨A0, n0, c0, A1, n1, c1, some ⟨b3, o3, none⟩, n2, c2, A3, n3, c3, ns, ds⟩, ws, bs⟩)) (hb5 : Below X.heap.size X w5) => pu_call HIH.out HLR.out HFB.out HV.out hn12l hnlib.out hq9 (hw6.out.trans (hbX.mono hsw6)) HL9.out hr5 hb5 ⟨(HLB.out X (hw6.out.trans (hbX.mono hsw6))).2 _ (List.mem_of_getElem? HF.out), HPK.out⟩)
                    have L1 : Hid (Row (X.drew.alloc (.cells #[] 37)) X.heap.size 37 4 (.slice (some ⟨X.heap.size, 0, none⟩) 0 0) 0 []) := Lib.hid (lit0_row X.drew X.heap.size 37 4 (by simp))
                    have L2 : Hid (Row ((X.drew.alloc (.cells #[] 37)).alloc (.cells #[.slice A0 n0 c0, .slice A1 n1 c1, .slice (some ⟨b3, o3, none⟩) n2 c2, .slice A3 n3 c3] 37)) X.heap.size 37 4 (.slice (some ⟨X.heap.size, 0, none⟩) 0 0) 0 []) := Lib.hid (L1.out.alloc _)
                    have L3 : Hid (Row ((X.drew.alloc (.cells #[.slice A0 n0 c0, .slice A1 n1 c1, .slice (some ⟨b3, o3, none⟩) n2 c2, .slice A3 n3 c3] 37)).alloc (.cells #[] 37)) X.heap.size 37 4 (.slice (some ⟨X.heap.size + 1, 0, none⟩) 0 0) 0 []) := Lib.hid (by
                      have := lit0_row (X.drew.alloc (.cells #[.slice A0 n0 c0, .slice A1 n1 c1, .slice (some ⟨b3, o3, none⟩) n2 c2, .slice A3 n3 c3] 37)) X.heap.size 37 4 (by simp)
                      simpa using this)
                    have XB1 : Hid (Below X.heap.size X (X.drew.alloc (.cells #[] 37))) := Lib.hid (((Below.refl _ _).drew).alloc (by simp) _)
                    have XB2 : Hid (Below X.heap.size X ((X.drew.alloc (.cells #[] 37)).alloc (.cells #[.slice A0 n0 c0, .slice A1 n1 c1, .slice (some ⟨b3, o3, none⟩) n2 c2, .slice A3 n3 c3] 37))) := Lib.hid (XB1.out.alloc (by simp) _)
                    have XB3 : Hid (Below X.heap.size X ((X.drew.alloc (.cells #[.slice A0 n0 c0, .slice A1 n1 c1, .slice (some ⟨b3, o3, none⟩) n2 c2, .slice A3 n3 c3] 37)).alloc (.cells #[] 37))) := Lib.hid ((((Below.refl _ _).drew).alloc (by simp) _).alloc (by simp) _)
                    have bx2 : Hid (Blk ((X.drew.alloc (.cells #[] 37)).alloc (.cells #[.slice A0 n0 c0, .slice A1 n1 c1, .slice (some ⟨b3, o3, none⟩) n2 c2, .slice A3 n3 c3] 37)) (X.heap.size + 1) (Fo.cells ⟨⟨A0, n0, c0, A1, n1, c1, some ⟨b3, o3, none⟩, n2, c2, A3, n3, c3, ns, ds⟩, ws, bs⟩).toArray 37) := Lib.hid (by
                      have := Blk.new (X.drew.alloc (.cells #[] 37)) #[.slice A0 n0 c0, .slice A1 n1 c1, .slice (some ⟨b3, o3, none⟩) n2 c2, .slice A3 n3 c3] 37
                      rw [show (X.drew.alloc (.cells #[] 37)).heap.size = X.heap.size + 1 by simp] at this
                      exact this)
                    have bx3 : Hid (Blk ((X.drew.alloc (.cells #[.slice A0 n0 c0, .slice A1 n1 c1, .slice (some ⟨b3, o3, none⟩) n2 c2, .slice A3 n3 c3] 37)).alloc (.cells #[] 37)) X.heap.size (Fo.cells ⟨⟨A0, n0, c0, A1, n1, c1, some ⟨b3, o3, none⟩, n2, c2, A3, n3, c3, ns, ds⟩, ws, bs⟩).toArray 37) := Lib.hid ((Blk.new X.drew #[.slice A0 n0 c0, .slice A1 n1 c1, .slice (some ⟨b3, o3, none⟩) n2 c2, .slice A3 n3 c3] 37).fr (Fr.of_grow (Grow.alloc _ _)) (fun h => h))
                    have kX := hblkX.cell
                    have kXl := hblkX.lt
                    clear hbX
                    go_wp2_with fail
                    go_region_law (first | (refine step_append_lit0 rfl (.tmp 63) (.tmp 64) 22 rfl X.heap.size 37 iF (.agg #[.slice none 0 0, .slice none 0 0, .slice none 0 0, .slice none 0 0]) 4 96 Try.underlying22 hiF hzF0 hzF1 hzF2 rfl (by decide) X.heap.size (by simp [Act.eval, Act.put]) L1.out B A n c (l.flatMap Fo.cells) (by simp [Act.eval, Act.put]) (RL.out.below' XB1.out hBX) (by unfold maxLen; omega) (by omega) (by simp; try omega) ?_; intro A7 c7 w7 hr7 hb7; have K7 := Lib.hid (XB1.out.trans (hb7.mono (by simp; try omega))); have k7 := (hblkX.fr (Fr.of_grow K7.out) (fun h => h)).cell; have k7l := (hblkX.fr (Fr.of_grow K7.out) (fun h => h)).lt; have hs7 := K7.out.size) | (refine step_append_lit0 rfl (.tmp 63) (.tmp 64) 22 rfl X.heap.size 37 iF (.agg #[.slice none 0 0, .slice none 0 0, .slice none 0 0, .slice none 0 0]) 4 96 Try.underlying22 hiF hzF0 hzF1 hzF2 rfl (by decide) X.heap.size (by simp [Act.eval, Act.put]) L2.out B A n c (l.flatMap Fo.cells) (by simp [Act.eval, Act.put]) (RL.out.below' XB2.out hBX) (by unfold maxLen; omega) (by omega) (by simp; try omega) ?_; intro A7 c7 w7 hr7 hb7; have K7 := Lib.hid (XB2.out.trans (hb7.mono (by simp; try omega))); have k7 := (hblkX.fr (Fr.of_grow K7.out) (fun h => h)).cell; have k7l := (hblkX.fr (Fr.of_grow K7.out) (fun h => h)).lt; have hs7 := K7.out.size; have bx7 := bx2.out.fr (Fr.of_grow hb7) (fun h => h)) | (refine step_append_lit0 rfl (.tmp 63) (.tmp 64) 22 rfl X.heap.size 37 iF (.agg #[.slice none 0 0, .slice none 0 0, .slice none 0 0, .slice none 0 0]) 4 96 Try.underlying22 hiF hzF0 hzF1 hzF2 rfl (by decide) (X.heap.size + 1) (by simp [Act.eval, Act.put]) L3.out B A n c (l.flatMap Fo.cells) (by simp [Act.eval, Act.put]) (RL.out.below' XB3.out hBX) (by unfold maxLen; omega) (by omega) (by simp; try omega) ?_; intro A7 c7 w7 hr7 hb7; have K7 := Lib.hid (XB3.out.trans (hb7.mono (by simp; try omega))); have k7 := (hblkX.fr (Fr.of_grow K7.out) (fun h => h)).cell; have k7l := (hblkX.fr (Fr.of_grow K7.out) (fun h => h)).lt; have hs7 := K7.out.size; have bx7 := bx3.out.fr (Fr.of_grow hb7) (fun h => h)) | (refine step_append_row rfl (.tmp 65) (.tmp 67) 22 rfl X.heap.size 37 iF (.agg #[.slice none 0 0, .slice none 0 0, .slice none 0 0, .slice none 0 0]) 4 96 Try.underlying22 hiF hzF0 hzF1 hzF2 rfl (by decide) (.slice A7 n c7) n (l.flatMap Fo.cells) (by simp [Act.eval, Act.put]) (hr7.alloc _) (w7.heap.size + 1) (some ⟨w7.heap.size, 0, none⟩) 1 1 (Fo.cells ⟨⟨A0, n0, c0, A1, n1, c1, some ⟨b3, o3, none⟩, n2, c2, A3, n3, c3, ns, ds⟩, ws, bs⟩) (by simp [Act.eval, Act.put]) (lk_reads w7 37 4 1 (Fo.cells ⟨⟨A0, n0, c0, A1, n1, c1, some ⟨b3, o3, none⟩, n2, c2, A3, n3, c3, ns, ds⟩, ws, bs⟩) rfl) (one_fo ⟨⟨A0, n0, c0, A1, n1, c1, some ⟨b3, o3, none⟩, n2, c2, A3, n3, c3, ns, ds⟩, ws, bs⟩) (by unfold maxLen; omega) (by omega) (by first | omega | (simp; omega)) ?_; intro A5 c5 w5 hr5 hg5 ho5; have hcal := HCAL.out A5 c5 w5 hr5 ((K7.out.alloc hs7 _).grown hg5 (by simp; omega) (fun k hk => (hr7.lt k hk).1))) | (refine step_append_row rfl (.tmp 65) (.tmp 67) 22 rfl X.heap.size 37 iF (.agg #[.slice none 0 0, .slice none 0 0, .slice none 0 0, .slice none 0 0]) 4 96 Try.underlying22 hiF hzF0 hzF1 hzF2 rfl (by decide) (.slice A7 n c7) n (l.flatMap Fo.cells) (by simp [Act.eval, Act.put]) hr7 w7.heap.size (some ⟨(X.heap.size + 1), 0, none⟩) 1 1 (Fo.cells ⟨⟨A0, n0, c0, A1, n1, c1, some ⟨b3, o3, none⟩, n2, c2, A3, n3, c3, ns, ds⟩, ws, bs⟩) (by simp [Act.eval, Act.put]) (buf_reads rfl bx7.lt (fun i u hu => (bx7.cell i).trans (by simpa using hu))) (one_fo ⟨⟨A0, n0, c0, A1, n1, c1, some ⟨b3, o3, none⟩, n2, c2, A3, n3, c3, ns, ds⟩, ws, bs⟩) (by unfold maxLen; omega) (by omega) (by first | omega | (simp; omega)) ?_; intro A5 c5 w5 hr5 hg5 ho5; have hcal := HCAL.out A5 c5 w5 hr5 (K7.out.grown hg5 hs7 (fun k hk => (hr7.lt k hk).1))) | (refine step_append_row rfl (.tmp 65) (.tmp 67) 22 rfl X.heap.size 37 iF (.agg #[.slice none 0 0, .slice none 0 0, .slice none 0 0, .slice none 0 0]) 4 96 Try.underlying22 hiF hzF0 hzF1 hzF2 rfl (by decide) (.slice A7 n c7) n (l.flatMap Fo.cells) (by simp [Act.eval, Act.put]) hr7 w7.heap.size (some ⟨X.heap.size, 0, none⟩) 1 1 (Fo.cells ⟨⟨A0, n0, c0, A1, n1, c1, some ⟨b3, o3, none⟩, n2, c2, A3, n3, c3, ns, ds⟩, ws, bs⟩) (by simp [Act.eval, Act.put]) (buf_reads rfl bx7.lt (fun i u hu => (bx7.cell i).trans (by simpa using hu))) (one_fo ⟨⟨A0, n0, c0, A1, n1, c1, some ⟨b3, o3, none⟩, n2, c2, A3, n3, c3, ns, ds⟩, ws, bs⟩) (by unfold maxLen; omega) (by omega) (by first | omega | (simp; omega)) ?_; intro A5 c5 w5 hr5 hg5 ho5; have hcal := HCAL.out A5 c5 w5 hr5 (K7.out.grown hg5 hs7 (fun k hk => (hr7.lt k hk).1))) | (refine step_call_go rfl 7 #[.tmp 68, .tmp 69] #[22, 22] rfl #[.slice A5 (n + 1) c5, .slice A9 (q + (n' - (q + 1))) c9] (by simp [Act.eval, Act.put]) (run7 _ _) (PuV w (pull l lib)) hcal ?_; rintro v4 w4 ⟨A4, n4, c4, fs4, rfl, hr4, hs4, hb4⟩) | fail)
                    all_goals
                      have hfin : Hid (PuPost w (pull l lib) (.returned (.tuple #[.slice A4 n4 c4, .int .i64 (pull l lib).1])) w4) := Lib.hid ⟨A4, n4, c4, fs4, rfl, hr4, hs4, hb4⟩
                      clear hr4 hs4 hb4
                      go_wp2
                      go_ret2
                      exact hfin.out
end Go.Proofs.Ytplfdibbnkjckaa
