/- What is pulled (plain); contract of bind.Pull. -/
import Derived.Test.YtplfdibbnkjckaaPuB
namespace Go.Proofs.Ytplfdibbnkjckaa
open Go.RowKit
set_option maxHeartbeats 400000
set_option linter.unusedVariables false
set_option linter.unusedSimpArgs false
def pullE : Nat → List Fo → List Fo → Int × List Fo
  | 0, _, _ => (0, [])
  | k + 1, l, lib => if partsErr (osOf lib) = 0 then (if partsErr (osOf l) = 0 then
      (match pickR (lkL (osOf l)) lib with
        | none => (0, l)
        | some i => pullE k (l ++ (lib[i]?).toList) (lib.eraseIdx i))
      else (partsErr (osOf l), [])) else (partsErr (osOf lib), [])
def pull (l lib : List Fo) : Int × List Fo := pullE (lib.length + 1) l lib
theorem pullE_lib {k : Nat} {l lib : List Fo} (h : partsErr (osOf lib) ≠ 0) : pullE (k + 1) l lib = (partsErr (osOf lib), []) := by rw [pullE, if_neg h]
theorem pullE_l {k : Nat} {l lib : List Fo} (h0 : partsErr (osOf lib) = 0) (h : partsErr (osOf l) ≠ 0) : pullE (k + 1) l lib = (partsErr (osOf l), []) := by rw [pullE, if_pos h0, if_neg h]
theorem pullE_none {k : Nat} {l lib : List Fo} (h0 : partsErr (osOf lib) = 0) (h1 : partsErr (osOf l) = 0) (h : pickR (lkL (osOf l)) lib = none) : pullE (k + 1) l lib = (0, l) := by rw [pullE, if_pos h0, if_pos h1, h]
theorem pullE_some {k i : Nat} {l lib : List Fo} {f : Fo} (h0 : partsErr (osOf lib) = 0) (h1 : partsErr (osOf l) = 0) (h : pickR (lkL (osOf l)) lib = some i) (hf : lib[i]? = some f) : pullE (k + 1) l lib = pullE k (l ++ [f]) (lib.eraseIdx i) := by
  rw [pullE, if_pos h0, if_pos h1, h]
  show pullE k (l ++ (lib[i]?).toList) _ = _
  rw [hf]; rfl
theorem first_all {os : List Ob} : (∀ o ∈ os, objErr o = 0) → firstErr os = 0 := by
  induction os with
  | nil => intro _; rfl
  | cons o os ih =>
    intro h
    have h1 := h o List.mem_cons_self
    have h2 := ih (fun x hx => h x (List.mem_cons_of_mem _ hx))
    have := first_step (os := o :: os) (k := 0) (x := o) rfl
    simp only [List.drop_zero, List.drop_succ_cons] at this
    rw [this, if_pos h1, h2]
theorem parts_sub {lib L : List Fo} (h : partsErr (osOf lib) = 0) (hs : ∀ f ∈ L, f ∈ lib) (hl : L.length ≤ lib.length) : partsErr (osOf L) = 0 := by
  unfold partsErr at h ⊢
  split at h
  · cases h
  · rename_i h12
    have hl2 : (osOf lib).length = lib.length := by simp [osOf]
    have hl3 : (osOf L).length = L.length := by simp [osOf]
    rw [if_neg (by omega)]
    refine first_all (fun o ho => ?_)
    unfold osOf at ho
    obtain ⟨f, hf, rfl⟩ := List.mem_map.1 ho
    exact first_zero h f.o (by unfold osOf; exact List.mem_map_of_mem (hs f hf))
theorem left_mem : ∀ (fs : List Fo) (bs : List Bool), ∀ f ∈ leftOf fs bs, f ∈ fs
  | [], _, f, h => by simp [leftOf] at h
  | _ :: _, [], f, h => by simp [leftOf] at h
  | x :: fs, b :: bs, f, h => by
    simp only [leftOf] at h
    split at h
    · exact List.mem_cons_of_mem _ (left_mem fs bs f h)
    · rcases List.mem_cons.1 h with rfl | h
      · exact List.mem_cons_self
      · exact List.mem_cons_of_mem _ (left_mem fs bs f h)
theorem left_len : ∀ (fs : List Fo) (bs : List Bool), (leftOf fs bs).length ≤ fs.length
  | [], _ => by simp [leftOf]
  | _ :: _, [] => by simp [leftOf]
  | x :: fs, b :: bs => by
    have := left_len fs bs
    simp only [leftOf]
    split <;> simp <;> omega
theorem left_none : ∀ (fs : List Fo), leftOf fs (List.replicate fs.length false) = fs
  | [] => rfl
  | x :: fs => by simp [leftOf, List.replicate_succ, left_none fs]
theorem osOf_app (a b : List Fo) : osOf (a ++ b) = osOf a ++ osOf b := by simp [osOf]
def foundI (o : Option Nat) : Int := match o with | some i => (i : Int) | none => -1
def PuPost (w : World) (P : Int × List Fo) (e : Ending) (w' : World) : Prop :=
  ∃ A n c fs', e = .returned (.tuple #[.slice A n c, .int .i64 P.1]) ∧ RF w' w'.heap.size A n fs' ∧ fs'.map Fo.says = P.2.map Fo.says ∧ Below w.heap.size w w'
theorem RF.none_ (w : World) (B : Nat) : RF w B none 0 [] := ⟨⟨Reads.none_, rfl⟩, fun f hf => by simp at hf⟩
theorem PuPost.bad {w w' : World} {P : Int × List Fo} {E : Int} (h : P = (E, [])) (hb : Below w.heap.size w w') : PuPost w P (.returned (.tuple #[.slice none 0 0, .int .i64 E])) w' := by
  subst h; exact ⟨none, 0, 0, [], rfl, RF.none_ _ _, rfl, hb⟩
theorem PuPost.good {w w' : World} {P : Int × List Fo} {l : List Fo} {A : Option Addr} {n c : Nat} {fs' : List Fo} (h : P = (0, l)) (hr : RF w' w'.heap.size A n fs') (hs : fs'.map Fo.says = l.map Fo.says) (hb : Below w.heap.size w w') : PuPost w P (.returned (.tuple #[.slice A n c, .int .i64 0])) w' := by
  subst h; exact ⟨A, n, c, fs', rfl, hr, hs, hb⟩
theorem pu_made (n : Nat) : (madeCells #[.bool false] (n * 1)).toList = (List.replicate n false).map Value.bool := by
  refine List.ext_getElem (by simp [madeCells]) fun j h1 h2 => ?_
  simp [madeCells, Nat.mod_one]
theorem pu_own_blk {w : World} {base g n : Nat} {t : TypeId} {xs : List Value} (h : w.ownsRow base t 1 (.slice (some ⟨g, 0, none⟩) n n) n xs) : Blk w g xs.toArray t := by
  have hl := h.1
  rcases h.2 with ⟨h0, _⟩ | ⟨g', cap, cur, e, hb, hg, hn, hm, hs, ht⟩
  · injection h0 with h0; cases h0
  · injection e with e1 e2 e3
    injection e1 with e1
    injection e1 with e1
    subst e1; subst e3
    unfold Blk
    rw [hg]
    congr 2
    apply Array.ext'
    simp
    rw [← ht, List.take_of_length_le]
    simp; omega
theorem infoBool : (Try.prog.info? 4).map (fun i => (i.zero, i.size, i.bytes)) = some (some (.bool false), 1, 1) := by kernel_rfl
def sliceLen : Value → Nat
  | .slice _ n _ => n
  | _ => 0
/-- The parts gathered: a row of the call's own, whose elements came in. -/
structure OutS (w0 w : World) (B : Nat) (v : Value) (out : List Fo) : Prop where
  row : Row w w0.heap.size 37 4 v out.length (out.flatMap Fo.cells)
  full : ∀ f ∈ out, f.Full w0 B
  low : Below w0.heap.size w0 w
theorem OutS.rf {w0 w : World} {B n c : Nat} {A : Option Addr} {out : List Fo} (h : OutS w0 w B (.slice A n c) out) (hn : n = out.length) (hB : B ≤ w0.heap.size) : RF w w.heap.size A n out := by
  have hr := h.row
  rw [← hn] at hr
  exact ⟨⟨hr.reads, hn.symm⟩, fun f hf => ((h.full f hf).below' h.low hB).more (by have := h.low.size; omega)⟩
theorem OutS.grow {w0 w w' : World} {B : Nat} {v : Value} {out : List Fo} (h : OutS w0 w B v out) (hb : Below w.heap.size w w') : OutS w0 w' B v out :=
  ⟨h.row.grow hb, h.full, h.low.trans (hb.mono h.low.size)⟩
set_option maxHeartbeats 1000000 in
set_option maxRecDepth 100000 in
theorem pull_any (hchk : ∀ (o : Ob) (w : World) (B : Nat), o.Read w B → B ≤ w.heap.size → Calls Try.prog 15 #[.agg o.vals] w (ErrPost w (objErr o)))
    (A A' : Option Addr) (n c n' c' : Nat) (l lib : List Fo) (w : World) (B : Nat) (h : RF w B A n l) (h' : RF w B A' n' lib) (hB : B ≤ w.heap.size) (hn : n * 96 ≤ 140737488355328) (hn' : n' ≤ 9223372036854775807) : Calls Try.prog 6 #[.slice A n c, .slice A' n' c'] w (PuPost w (pull l lib)) := by
  obtain ⟨iF, hiF, hzF0, hzF1, hzF2⟩ := info_parts infoF
  obtain ⟨ib, hib, hzb0, hzb1, hzb2⟩ := info_parts infoBool
  have HL := Lib.hid h.len
  have HL' := Lib.hid h'.len
  have HC := Lib.hid (checked_any hchk A' n' c' (osOf lib) w B h'.ro hB hn')
  unfold ErrPost at HC
  by_cases hE : partsErr (osOf lib) = 0
  rotate_left
  · have he := Lib.hid (show pull l lib = (partsErr (osOf lib), []) from pullE_lib hE)
    generalize partsErr (osOf lib) = E at *
    have d : (E != 0) = true := by simpa using hE
    clear hE
    go_enter Try.func6, Try.ntmps6
    go_wp2_with fail
    refine HC.out.mono ?_
    rintro e' w3 ⟨rfl, hb3⟩
    go_wp2
    go_ret2
    exact PuPost.bad he.out hb3
  rw [hE] at HC
  have HE := Lib.hid hE
  have hl12 : (osOf lib).length ≤ 12 := (parts_zero hE).1
  have hn12 : n' ≤ 12 := by rw [← HL'.out]; simpa [osOf] using hl12
  clear hE hl12
  go_enter Try.func6, Try.ntmps6
  go_wp2_with fail
  refine HC.out.mono ?_
  rintro e' w3 ⟨rfl, hb3⟩
  have hs3 := hb3.size
  go_wp2_with (at_builtin; refine wpList_append_row _ rfl (.const (.slice none 0 0)) (.tmp 21) 22 rfl w.heap.size 37 iF (.agg #[.slice none 0 0, .slice none 0 0, .slice none 0 0, .slice none 0 0]) 4 96 Try.underlying22 hiF hzF0 hzF1 hzF2 rfl (by decide) (.slice none 0 0) 0 [] rfl (Row.nil _ _ _ _) B A n c (l.flatMap Fo.cells) rfl (Reads.below' h.1.1 hb3 hB) ?o1 (by unfold maxLen; omega) (by omega) hs3 ?_)
  case o1 =>
    intro u hu
    obtain ⟨f, _, hf⟩ := List.mem_flatMap.1 hu
    exact one_fo f u hf
  intro A1 c1 w4 hr4 hg4 _
  have hb4 : Below w.heap.size w w4 := hb3.grown hg4 hs3 (fun k hk => by simp [Value.ownBlock] at hk)
  have hs4 := hb4.size
  have hr4' : Row w4 w.heap.size 37 4 (.slice A1 n c1) n (l.flatMap Fo.cells) := by simpa using hr4
  clear hr4 hg4 hb3 HC
  go_wp2_with (refine wpList_make_full _ rfl (.tmp 24) (.tmp 24) 43 rfl w.heap.size 4 ib _ 1 Try.underlying43 hib hzb0 hzb1 .i64 .i64 _ _ n' rfl rfl rfl rfl (by rw [hzb2]; omega) (by simp only [maxLen]; omega) hs4 ?_; intro w5 hown5 hgr5)
  have hblk := pu_own_blk hown5
  rw [show (Value.bool false).cells = #[.bool false] from rfl, pu_made] at hblk
  have hb45 : Below w4.heap.size w4 w5 := (Below.refl _ _).grown hgr5 (Nat.le_refl _) (fun k hk => by cases hk)
  have hout : OutS w w5 B (.slice A1 n c1) l := ⟨by rw [HL.out]; exact hr4'.grow hb45, h.2, hb4.trans (hb45.mono hs4)⟩
  obtain ⟨gt, hgt⟩ : ∃ gt, gt = w4.heap.size := ⟨_, rfl⟩
  rw [← hgt] at hblk ⊢
  have hgw : w.heap.size ≤ gt := by omega
  have HINV : Hid (pullE ((leftOf lib (List.replicate n' false)).length + 1) l (leftOf lib (List.replicate n' false)) = pull l lib) := Lib.hid (by rw [← HL'.out, left_none]; rfl)
  have HLN : Hid (l.length + (leftOf lib (List.replicate n' false)).length = l.length + lib.length) := Lib.hid (by rw [← HL'.out, left_none])
  clear hown5 hgr5 hb45 hr4' hb4 hgt
  have hcl := Lib.hid (fun (W : World) (hb : Below w.heap.size w W) => h'.below' hb hB)
  go_wp2
  go_loopw [7] (fun v wr => ∃ (out : List Fo) (tk : List Bool) (A9 : Option Addr) (c9 : Nat), v = .slice A9 out.length c9 ∧ OutS w wr B v out ∧ Blk wr gt (tk.map Value.bool).toArray 4 ∧ tk.length = n' ∧ Hid (pullE ((leftOf lib tk).length + 1) out (leftOf lib tk) = pull l lib) ∧ Hid (out.length + (leftOf lib tk).length = l.length + lib.length)) (fun v _ => l.length + lib.length + 1 - sliceLen v)
  case atStart => exact ⟨l, List.replicate n' false, A1, c1, by rw [HL.out], by rw [HL.out] at *; exact hout, hblk, by simp, HINV, HLN⟩
  case round =>
    clear hblk hout HINV HLN
    obtain ⟨out, tk, A9, c9, rfl, hout, hblk, htl, hinv, hln⟩ := hrel
    have hsr := hout.low.size
    have hrf := hout.rf rfl hB
    obtain ⟨_, _, he9, hc91, hc92⟩ := hout.row.shape
    injection he9 with e1 e2 e3
    subst e1
    subst e3
    clear e2
    unfold maxLen at hc92
    have HLK := Lib.hid (lacks_any hchk A9 out.length c9 (osOf out) wr wr.heap.size hrf.ro (Nat.le_refl _) (by omega))
    unfold LkPost at HLK
    have HLE : Hid (partsErr (osOf (leftOf lib tk)) = 0) := Lib.hid (parts_sub HE.out (left_mem _ _) (left_len _ _))
    have HTL : Hid (lib.length = tk.length) := Lib.hid (by rw [HL'.out, htl])
    by_cases hE : partsErr (osOf out) = 0
    rotate_left
    · have he := Lib.hid (hinv.out.symm.trans (pullE_l HLE.out hE))
      have hlow := Lib.hid hout.low
      generalize partsErr (osOf out) = E at *
      have d : (E != 0) = true := by simpa using hE
      clear hE hout hrf hblk
      go_wp2_with fail
      refine HLK.out.mono ?_
      rintro e' w6 ⟨v6, rfl, hr6, hb6⟩
      have hfin := Lib.hid (PuPost.bad he.out (hlow.out.trans (hb6.mono hlow.out.size)))
      go_wp2
      go_ret2
      exact hfin.out
    rw [hE] at HLK
    obtain ⟨ho12, hgood⟩ := parts_good hE
    obtain ⟨_, hbfit⟩ := parts_zero hE
    have HGF := Lib.hid (fun o ho => And.intro (hbfit o ho) (hgood o ho))
    have hol : out.length ≤ 12 := by simpa [osOf] using ho12
    have HEO := Lib.hid hE
    clear hE ho12 hgood hbfit
    go_wp2_with fail
    refine HLK.out.mono ?_
    rintro e' w6 ⟨v6, rfl, hr6, hb6⟩
    obtain ⟨A6, c6, rfl, hc61, hc62⟩ := hr6.shape
    unfold maxLen at hc62
    have hout6 := hout.grow hb6
    have hblk6 := hblk.fr (Fr.of_grow hb6) (fun h => h)
    have hs6 := hb6.size
    have HLQ : Hid (∀ s ∈ lkL (osOf out), s.size ≤ 9223372036854775807) := Lib.hid (fun s hs => by
      unfold lkL at hs
      rw [if_pos HEO.out] at hs
      have := needs_good (fun o ho => (HGF.out o ho).2) s (lacks_mem _ _ s hs)
      have := good_size this
      omega)
    obtain ⟨Lq, hLq⟩ : ∃ Lq, Lq = lkL (osOf out) := ⟨_, rfl⟩
    rw [← hLq] at hr6 HLQ hc61 ⊢
    have HLQE := Lib.hid hLq
    have hrd6 := Lib.hid hr6.reads
    have h6lib := Lib.hid (hcl.out w6 hout6.low)
    clear hLq hout hblk hb6 hr6 HLK hrf
    generalize hll : Lq.length = ll at *
    have HLL := Lib.hid hll
    clear hll
    go_wp2
    go_loopw [11, 36] (fun fo i w' => ∃ k : Nat, k ≤ ll ∧ i = .int .i64 k ∧ fo = .int .i64 (foundI (pickT (Lq.take k) lib tk)) ∧ Below w6.heap.size w6 w') (fun _ i _ => ll - (intOf i).toNat)
    case atStart => exact ⟨0, by omega, rfl, rfl, Below.refl _ _⟩
    case round =>
      obtain ⟨k, hk, rfl, rfl, hbk⟩ := hrel
      rename World => W7
      have hs7 := hbk.size
      by_cases hkl : k < ll
      · obtain ⟨b, o, u, rfl, hb, hu, hc⟩ := (Reads.below' hrd6.out hbk (Nat.le_refl _)).at_ hkl
        have hsk : Lq[k]? = some (Lq.getD k ByteArray.empty) := by simp [List.getD, List.getElem?_eq_getElem (by rw [HLL.out]; exact hkl : k < Lq.length)]
        rw [List.getElem?_map, hsk] at hu
        have hu' : u = .string (Lq.getD k ByteArray.empty) := by simpa using hu.symm
        subst hu'
        have hss := HLQ.out _ (List.mem_of_getElem? hsk)
        generalize Lq.getD k ByteArray.empty = s at *
        have HSN : Hid (pickT (Lq.take (k + 1)) lib tk = (pickT (Lq.take k) lib tk).or (findT (hasF s) lib tk)) := Lib.hid (by
          obtain ⟨h1, h2⟩ := List.getElem?_eq_some_iff.1 hsk
          rw [List.take_succ_eq_append_getElem h1, h2, pickT_snoc])
        obtain ⟨pk, hpk⟩ : ∃ pk, pk = pickT (Lq.take k) lib tk := ⟨_, rfl⟩
        rw [← hpk] at HSN ⊢
        have hblk7 := hblk6.fr (Fr.of_grow hbk) (fun h => h)
        have hb6g : b < W7.heap.size := by omega
        clear hu hsk hpk
        obtain ⟨W8, hW8⟩ : ∃ W8, W8 = W7 := ⟨_, rfl⟩
        subst hW8
        go_wp2
        go_loopw [11, 42] (fun fo i w' => ∃ q : Nat, q ≤ n' ∧ i = .int .i64 q ∧ fo = .int .i64 (foundI (pk.or (findT (hasF s) (lib.take q) (tk.take q)))) ∧ Below w6.heap.size w6 w') (fun _ i _ => n' - (intOf i).toNat)
        case atStart => exact ⟨0, by omega, rfl, by simp [findT], hbk⟩
        case round =>
          clear hbk hs7 hblk7 hb6g
          obtain ⟨q, hq, rfl, rfl, hbq⟩ := hrel
          rename World => W9
          have hs9 := hbq.size
          by_cases hql : q < n'
          rotate_left
          · obtain rfl : q = n' := by omega
            have hfin : Hid (foundI (pk.or (findT (hasF s) (lib.take q) (tk.take q))) = foundI (pickT (Lq.take (k + 1)) lib tk)) := Lib.hid (by
              rw [HSN.out, List.take_of_length_le (by rw [HL'.out]; exact Nat.le_refl _), List.take_of_length_le (by rw [htl]; exact Nat.le_refl _)])
            obtain ⟨ff, hff⟩ : ∃ ff, ff = foundI (pickT (Lq.take (k + 1)) lib tk) := ⟨_, rfl⟩
            rw [hfin.out, ← hff]
            have HFF := Lib.hid hff
            clear hff hfin
            go_wp2
            go_roundw
            case rel => exact ⟨k + 1, by omega, by go_num, by rw [HFF.out], hbq⟩
            case measure => simp [intOf]; omega
          · obtain ⟨b2, o2, f, rfl, hb2, hf, hfull, z0, z1, z2, z3⟩ := (h6lib.out.below' hbq (by omega)).at_ hql
            have htk : tk[q]? = some (tk.getD q false) := by simp [List.getD, List.getElem?_eq_getElem (by rw [htl]; exact hql : q < tk.length)]
            have HST := Lib.hid (findT_snoc (p := hasF s) hf htk)
            have HPF : Hid (∀ W9' : World, Below W9.heap.size W9 W9' → Calls Try.prog 12 #[.agg f.o.vals, .string s] W9' (HasP W9' (hasF s f))) := Lib.hid (fun W9' hb9 => has_any f.o s W9' B (hfull.fine.below' hb9 (by omega)) (by have := hb9.size; omega) hss)
            have hblk9 := hblk6.fr (Fr.of_grow hbq) (fun h => h)
            have hbc : W9.cell? ⟨gt, q, none⟩ = some (.bool (tk.getD q false)) := by
              rw [hblk9.cell, List.getElem?_toArray, List.getElem?_map, htk]; rfl
            have hgl := hblk9.lt
            have hx9 : Below W9.heap.size W9 (W9.alloc (.cells #[.slice f.o.A0 f.o.n0 f.o.c0, .slice f.o.A1 f.o.n1 f.o.c1, .slice f.o.A2 f.o.n2 f.o.c2, .slice f.o.A3 f.o.n3 f.o.c3] 37)) := (Below.refl _ _).alloc (Nat.le_refl _) _
            have hbx := Lib.hid (hbq.trans (hx9.mono hs9))
            have HPF2 := Lib.hid (HPF.out _ hx9)
            have hszx := Lib.hid hx9.size
            obtain ⟨fq, hfq⟩ : ∃ fq, fq = findT (hasF s) (lib.take q) (tk.take q) := ⟨_, rfl⟩
            rw [← hfq] at HST ⊢
            generalize tk.getD q false = tb at *
            unfold HasP at HPF2
            have hb2g : b2 < W9.heap.size := by omega
            clear hfull hf htk hblk9 hfq HPF hx9
            generalize hasF s f = hb at *
            obtain ⟨⟨A0, n0, c0, A1, n1, c1, A2, n2, c2, A3, n3, c3, ns, ds⟩, ws, bs⟩ := f
            unfold Ob.vals at HPF2
            dsimp only at z0 z1 z2 z3 HPF2 hbx hszx
            cases hpq : pk.or fq with
            | some j =>
              have hnew := Lib.hid (show pk.or (findT (hasF s) (lib.take (q + 1)) (tk.take (q + 1))) = some j by rw [HST.out, ← Option.or_assoc, hpq]; rfl)
              rw [show foundI (some j) = (j : Int) from rfl]
              have hj0 : ¬ (j : Int) < 0 := by omega
              clear hpq
              go_wp2
              go_roundw
              case rel => exact ⟨q + 1, by omega, by go_num, by rw [hnew.out]; rfl, hbx.out⟩
              case measure => simp [intOf]; omega
            | none =>
              rw [show foundI none = -1 from rfl]
              cases tb with
              | true =>
                have hnew := Lib.hid (show pk.or (findT (hasF s) (lib.take (q + 1)) (tk.take (q + 1))) = none by rw [HST.out, ← Option.or_assoc, hpq]; simp)
                clear hpq
                go_wp2
                go_roundw
                case rel => exact ⟨q + 1, by omega, by go_num, by rw [hnew.out]; rfl, hbx.out⟩
                case measure => simp [intOf]; omega
              | false =>
                have hnew := Lib.hid (show pk.or (findT (hasF s) (lib.take (q + 1)) (tk.take (q + 1))) = if hb = true then some q else none by rw [HST.out, ← Option.or_assoc, hpq]; simp)
                clear hpq
                cases hb with
                | true =>
                  go_wp2_with fail
                  refine HPF2.out.mono ?_
                  rintro e' w10 ⟨rfl, hb10⟩
                  have hbn := Lib.hid (hbx.out.trans (hb10.mono (by have := hszx.out; omega)))
                  clear hb10
                  go_wp2
                  go_roundw
                  case rel => exact ⟨q + 1, by omega, by go_num, by rw [hnew.out]; rfl, hbn.out⟩
                  case measure => simp [intOf]; omega
                | false =>
                  go_wp2_with fail
                  refine HPF2.out.mono ?_
                  rintro e' w10 ⟨rfl, hb10⟩
                  have hbn := Lib.hid (hbx.out.trans (hb10.mono (by have := hszx.out; omega)))
                  clear hb10
                  go_wp2
                  go_roundw
                  case rel => exact ⟨q + 1, by omega, by go_num, by rw [hnew.out]; rfl, hbn.out⟩
                  case measure => simp [intOf]; omega
      · obtain rfl : k = ll := by omega
        rw [show Lq.take k = Lq from by rw [List.take_of_length_le]; rw [HLL.out]; exact Nat.le_refl _]
        have hout7 := hout6.grow hbk
        have hblk7 := hblk6.fr (Fr.of_grow hbk) (fun h => h)
        have hs7w := hout7.low.size
        cases hp : pickT Lq lib tk with
        | none =>
          have hpn := pickT_none HTL.out hp
          rw [HLQE.out] at hpn
          have he := Lib.hid (hinv.out.symm.trans (pullE_none HLE.out HEO.out hpn))
          have HCL := Lib.hid (clone_any A9 out.length c9 out W7 W7.heap.size (hout7.rf rfl hB) (Nat.le_refl _) hol (fun o ho => HGF.out o ho))
          unfold CloneP at HCL
          have hlow := Lib.hid hout7.low
          rw [show foundI none = -1 from rfl]
          clear hp hpn hout7 hblk7 hout6 hblk6 hbk
          go_wp2_with fail
          refine HCL.out.mono ?_
          rintro e' w8 ⟨A8, n8, fs8, rfl, hrf8, hsy8, hb8⟩
          have hfin : Hid (PuPost w (pull l lib) (.returned (.tuple #[.slice A8 out.length n8, .int .i64 0])) w8) := Lib.hid (PuPost.good he.out hrf8 hsy8 (hlow.out.trans (hb8.mono hlow.out.size)))
          clear hrf8 hsy8 hb8
          go_wp2
          go_ret2
          exact hfin.out
        | some i =>
          obtain ⟨i', hi1, hi2, hi3, hi4⟩ := pickT_some HTL.out hp
          rw [HLQE.out] at hi1
          have hin : i < n' := by rw [← HL'.out]; exact hi4
          obtain ⟨b2, o2, f, rfl, hb2, hf, hfull, z0, z1, z2, z3⟩ := (h6lib.out.below' hbk (by omega)).at_ hin
          have HINV := Lib.hid (show pullE ((leftOf lib (tk.set i true)).length + 1) (out ++ [f]) (leftOf lib (tk.set i true)) = pull l lib from by
            rw [← hinv.out, pullE_some HLE.out HEO.out hi1 (hi2.trans hf), hi3]
            congr 1
            have := congrArg List.length hi3
            rw [List.length_eraseIdx] at this
            have hil : i' < (leftOf lib tk).length := by
              rcases Nat.lt_or_ge i' (leftOf lib tk).length with h1 | h1
              · exact h1
              · rw [List.getElem?_eq_none h1, hf] at hi2; cases hi2
            rw [if_pos hil] at this
            omega)
          have HLN := Lib.hid (show (out ++ [f]).length + (leftOf lib (tk.set i true)).length = l.length + lib.length from by
            have h1 := hln.out
            have := congrArg List.length hi3
            rw [List.length_eraseIdx] at this
            have hil : i' < (leftOf lib tk).length := by
              rcases Nat.lt_or_ge i' (leftOf lib tk).length with h1 | h1
              · exact h1
              · rw [List.getElem?_eq_none h1, hf] at hi2; cases hi2
            rw [if_pos hil] at this
            rw [List.length_append]
            show out.length + 1 + _ = _
            omega)
          have hmeas := Lib.hid (show out.length + 1 ≤ l.length + lib.length from by
            have := HLN.out
            rw [List.length_append] at this
            have e : ([f] : List Fo).length = 1 := rfl
            omega)
          have HFF : Hid (f.Full w B) := Lib.hid (h'.2 f (List.mem_of_getElem? hf))
          have htk : tk.length = n' := htl
          have hbc : W7.cell? ⟨gt, i, none⟩ = some (.bool (tk.getD i false)) := by
            rw [hblk7.cell]
            simp [List.getD, List.getElem?_eq_getElem (by omega : i < tk.length)]
          have hfz := hblk7.free i
          have hgl := hblk7.lt
          have hblk8 := Lib.hid (show Blk (W7.setCell ⟨gt, i, none⟩ (.bool true)) gt ((tk.set i true).map Value.bool).toArray 4 from by
            have := hblk7.set i (.bool true)
            rw [List.map_set]; simpa using this)
          have hne := bp_row_blk' hout7.row hblk7 (by decide)
          have hout8 : OutS w (W7.setCell ⟨gt, i, none⟩ (.bool true)) B (.slice A9 out.length c9) out := ⟨hout7.row.setCell (fun e => hne e) _, hout7.full, hout7.low.setCell (p := ⟨gt, i, none⟩) hgw _⟩
          have hb2g : b2 < W7.heap.size := by omega
          have hgb2 : ¬ gt = b2 := by
            intro e
            subst e
            have := hblk7.cell (o2 + i * 4)
            rw [z0] at this
            have h3 : (tk.map Value.bool).toArray[o2 + i * 4]? = some (.slice f.o.A0 f.o.n0 f.o.c0) := this.symm
            simp [List.getElem?_map] at h3
          have hb2gt : ¬ b2 = gt := fun e => hgb2 e.symm
          rw [show foundI (some i) = (i : Int) from rfl]
          have hi0 : ¬ (i : Int) < 0 := by omega
          have htl8 : (tk.set i true).length = n' := by simpa using htl
          clear hp hi1 hi2 hi3 hfull hf hout7 hblk7 hout6 hblk6 hbk hinv hln hne
          have hs8w := hout8.low.size
          have HO8 := Lib.hid hout8
          have hmm := hmeas.out
          have hsz8 : (W7.setCell ⟨gt, i, none⟩ (.bool true)).heap.size = W7.heap.size := by simp
          have hrdf := Lib.hid (show Reads ((W7.setCell ⟨gt, i, none⟩ (.bool true)).alloc (.cells f.cells.toArray 37)) (W7.heap.size + 1) 4 (some ⟨W7.heap.size, 0, none⟩) 1 f.cells from by
            have := lk_reads (W7.setCell ⟨gt, i, none⟩ (.bool true)) 37 4 1 f.cells rfl
            rw [hsz8] at this
            exact this)
          clear hsz8
          clear hout8
          go_wp2_with (at_builtin; go_loud (refine wpList_append_row _ rfl (.tmp 71) (.tmp 76) 22 rfl w.heap.size 37 iF (.agg #[.slice none 0 0, .slice none 0 0, .slice none 0 0, .slice none 0 0]) 4 96 Try.underlying22 hiF hzF0 hzF1 hzF2 rfl (by decide) (.slice A9 out.length c9) out.length (out.flatMap Fo.cells) rfl (HO8.out.row.alloc _) (W7.heap.size + 1) (some ⟨W7.heap.size, 0, none⟩) 1 1 f.cells rfl hrdf.out (one_fo f) (by unfold maxLen; omega) (by omega) (by simp; omega) ?_))
          intro A10 c10 w10 hr10 hg10 _
          have hob := HO8.out.row.lt
          have hf10 : Fr (fun k => (Value.slice A9 out.length c9).ownBlock = some k) (W7.setCell ⟨gt, i, none⟩ (.bool true)) w10 := ((Fr.refl _ _).alloc _).grown hg10 (fun k e _ => e)
          have hblk10 := hblk8.out.fr hf10 (fun e => bp_row_blk' HO8.out.row hblk8.out (by decide) e)
          have hlow10 := HO8.out.low.trans (hf10.below hs8w (fun k e => (hob _ e).1))
          have hout10 : OutS w w10 B (.slice A10 (out.length + 1) c10) (out ++ [f]) := ⟨by
            rw [List.flatMap_append, List.length_append]
            simpa using hr10, fun f' hf' => by
              rcases List.mem_append.1 hf' with h1 | h1
              · exact HO8.out.full f' h1
              · rw [List.mem_singleton.1 h1]; exact HFF.out, hlow10⟩
          have HO10 := Lib.hid hout10
          have HB10 := Lib.hid hblk10
          clear hr10 hg10 hob hf10 hblk10 hlow10 hout10
          go_wp2
          go_roundw
          case rel => exact ⟨out ++ [f], tk.set i true, A10, c10, by simp, HO10.out, HB10.out, htl8, HINV, HLN⟩
          case measure => simp [sliceLen]; omega
end Go.Proofs.Ytplfdibbnkjckaa
