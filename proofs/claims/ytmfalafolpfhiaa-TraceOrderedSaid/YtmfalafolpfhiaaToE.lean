/- A map[int][]int of the call's own, each task's list in memory of its own; the loop of trace.Order. -/
import Derived.Test.YtmfalafolpfhiaaToL
import Derived.Test.YtmfalafolpfhiaaToH
import Derived.Test.YtmfalafolpfhiaaToI
namespace Go.Proofs.Ytmfalafolpfhiaa
open Go.RowKit Go.Maps
set_option maxHeartbeats 400000
set_option linter.unusedVariables false
set_option linter.unusedSimpArgs false
/-- An element of a map, told by itself. -/
def selfE (v : Value) : Option (DataW Value × List MemPlace) := some (.held v, [])
/-- Block b is a map[int][]int that says f (nil where there is nothing). -/
def VMap (w : World) (b n : Nat) (f : Int → Value) : Prop := ∃ D : DataW Value, w.ownsMap Try.prog 3 selfE b n D ∧ IsMap D ∧ ∀ x : Int, D.atKey (.int .i64 x) (.held (.slice none 0 0)) = .held (f x)
namespace VMap
variable {w w' : World} {b n : Nat} {f : Int → Value}
theorem made (w : World) : VMap (w.alloc (.map #[] 0)) w.heap.size 0 (fun _ => .slice none 0 0) := ⟨.map [], World.ownsMap_made w _ _ _, isMap_empty, fun x => by simp [DataW.atKey]⟩
theorem fr {F : Nat → Prop} (h : VMap w b n f) (hf : Fr F w w') (hn : ¬ F b) : VMap w' b n f := by
  obtain ⟨D, ⟨es, c, h1, h4⟩, h2⟩ := h
  exact ⟨D, ⟨es, c, (hf.block b (lt_blk h1) hn).trans h1, h4⟩, h2⟩
theorem grown (h : VMap w b n f) {row : Option Nat} (hg : w.grownBy w' row) (hr : row ≠ some b) : VMap w' b n f := h.fr (Fr.of_grown hg) (fun e => hr e)
theorem alloc (h : VMap w b n f) (o : Obj) : VMap (w.alloc o) b n f := h.fr ((Fr.refl Nil w).alloc o) (fun h => h)
theorem drew (h : VMap w b n f) : VMap w.drew b n f := h
theorem lt (h : VMap w b n f) : b < w.heap.size := by
  obtain ⟨D, h1, _⟩ := h
  exact h1.lt
theorem update (h : VMap w b n f) (hn : n < maxLen) {x : Int} (hx : (Lit.int .i64 x).wf = true) (v : Value) :
    ∃ w', (Instr.mapUpdate 49 (.map (some b)) (.int .i64 x) v).run Try.prog w = .ok () w' ∧ VMap w' b (n + 1) (fun z => if z = x then v else f z) ∧ w.grownBy w' (some b) := by
  obtain ⟨D, h1, h2, h3⟩ := h
  obtain ⟨w', hrun, r1, r2⟩ := h1.update (int_keyed Try.underlying3) Try.underlying49 hn (keyOf_int_mk Try.underlying3 hx) (rfl : selfE v = some (.held v, []))
  refine ⟨w', hrun, ⟨_, r1, h2.put _ _, fun z => ?_⟩, r2⟩
  by_cases hz : z = x
  · subst hz
    rw [atKey_put_same h2 (by trivial)]; simp
  · rw [atKey_put_other (by intro e; injection e with _ e; exact hz e), h3 z]; simp [hz]
theorem look (h : VMap w b n f) {x : Int} (hx : (Lit.int .i64 x).wf = true) : (Instr.lookup 49 (.map (some b)) (.int .i64 x) false).run Try.prog w = .ok (f x) w := by
  obtain ⟨D, h1, h2, h3⟩ := h
  obtain ⟨v, ps, hrun, hv⟩ := h1.lookup (int_keyed Try.underlying3) Try.underlying49 (by rfl : (zeroValue 23).run Try.prog w = .ok (.slice none 0 0) w) (rfl : selfE (.slice none 0 0) = some (.held (.slice none 0 0), [])) (keyOf_int_mk Try.underlying3 hx)
  rw [h3 x] at hv
  unfold selfE at hv
  injection hv with hv
  injection hv with hv
  injection hv with hv
  rw [hrun, hv]
end VMap
theorem vmap_ne {w : World} {b nn B n s : Nat} {t : TypeId} {f : Int → Value} {v : Value} {xs : List Value} (h : VMap w b nn f) (hr : Row w B t s v n xs) : v.ownBlock ≠ some b := by
  intro he
  obtain ⟨D, ⟨es, c, h1, _⟩, _⟩ := h
  rcases hr.2 with ⟨rfl, _⟩ | ⟨g', o, cap, cur, rfl, _, hh, _⟩
  · simp [Value.ownBlock] at he
  · have : g' = b := by simpa [Value.ownBlock] using he
    subst this
    rw [h1] at hh
    injection hh with hh
    cases hh
theorem row_ne {w : World} {B B' n n' s s' : Nat} {t t' : TypeId} {v v' : Value} {xs xs' : List Value} (h : Row w B t s v n xs) (h' : Row w B' t' s' v' n' xs') (ht : t ≠ t') : ∀ g, v.ownBlock = some g → v'.ownBlock ≠ some g := by
  intro g hg hg'
  rcases h.2 with ⟨rfl, _⟩ | ⟨g1, o, cap, cur, rfl, _, hh, _⟩
  · simp [Value.ownBlock] at hg
  rcases h'.2 with ⟨rfl, _⟩ | ⟨g2, o2, cap2, cur2, rfl, _, hh2, _⟩
  · simp [Value.ownBlock] at hg'
  have e1 : g1 = g := by simpa [Value.ownBlock] using hg
  have e2 : g2 = g := by simpa [Value.ownBlock] using hg'
  subst e1; subst e2
  rw [hh] at hh2
  injection hh2 with hh2
  injection hh2 with _ e
  exact ht e
def OkT (t : Int) : Prop := 1 ≤ t ∧ t ≤ 16
/-- Each task's list, as the map says it. -/
structure HM (w : World) (b : Nat) (l : Int → List Int) (f : Int → Value) (nn : Nat) (wr : World) : Prop where
  map : VMap wr b nn f
  row : ∀ t, OkT t → Row wr w.heap.size 3 1 (f t) (l t).length ((l t).map (Value.int .i64))
  apart : ∀ t t', OkT t → OkT t' → t ≠ t' → ∀ g, (f t).ownBlock = some g → (f t').ownBlock ≠ some g
  bel : Below w.heap.size w wr
  lowb : w.heap.size ≤ b
theorem HM.alloc {w wr : World} {b nn : Nat} {l : Int → List Int} {f : Int → Value} (h : HM w b l f nn wr) (o : Obj) : HM w b l f nn (wr.alloc o) := ⟨h.map.alloc o, fun t ht => (h.row t ht).alloc o, h.apart, h.bel.alloc h.bel.size o, h.lowb⟩
theorem HM.drew {w wr : World} {b nn : Nat} {l : Int → List Int} {f : Int → Value} (h : HM w b l f nn wr) : HM w b l f nn wr.drew := ⟨h.map.drew, fun t ht => (h.row t ht).drew, h.apart, h.bel.drew, h.lowb⟩
theorem HM.below {w wr w' : World} {b nn : Nat} {l : Int → List Int} {f : Int → Value} (h : HM w b l f nn wr) (hb : Below wr.heap.size wr w') : HM w b l f nn w' := ⟨h.map.fr (Fr.of_grow hb) (fun h => h), fun t ht => (h.row t ht).grow hb, h.apart, h.bel.trans (hb.mono h.bel.size), h.lowb⟩
/-- A row of another type has grown. -/
theorem HM.other {w wr w' : World} {b nn n : Nat} {l : Int → List Int} {f : Int → Value} {v : Value} {xs : List Value} (h : HM w b l f nn wr) (hr : Row wr w.heap.size 37 2 v n xs) (hg : wr.grownBy w' v.ownBlock) : HM w b l f nn w' :=
  ⟨h.map.grown hg (vmap_ne h.map hr), fun t ht => (h.row t ht).grown hg (fun k hk e => row_ne (h.row t ht) hr (by decide) k hk e), h.apart, h.bel.grown hg h.bel.size (fun k hk => (hr.lt k hk).1), h.lowb⟩
/-- A task's list has become another one. -/
theorem HM.put {w wr w1 w2 : World} {b nn : Nat} {l : Int → List Int} {f : Int → Value} {t : Int} {v : Value} {xs : List Int} (h : HM w b l f nn wr) (ht : OkT t) (hg : wr.grownBy w1 (f t).ownBlock) (hr : Row w1 w.heap.size 3 1 v xs.length (xs.map (Value.int .i64)))
    (ho : v.ownBlock = (f t).ownBlock ∨ ∃ g, v.ownBlock = some g ∧ wr.heap.size ≤ g) (hm : VMap w2 b (nn + 1) (fun z => if z = t then v else f z)) (hg2 : w1.grownBy w2 (some b)) :
    HM w b (fun z => if z = t then xs else l z) (fun z => if z = t then v else f z) (nn + 1) w2 := by
  have hm1 := h.map.grown hg (vmap_ne h.map (h.row t ht))
  have hr1 : ∀ t', OkT t' → t' ≠ t → Row w1 w.heap.size 3 1 (f t') (l t').length ((l t').map (Value.int .i64)) := fun t' ht' hne => (h.row t' ht').grown hg (fun k hk e => h.apart t' t ht' ht hne k hk e)
  have hb1 : Below w.heap.size w w1 := h.bel.grown hg h.bel.size (fun k hk => ((h.row t ht).lt k hk).1)
  have hnew : ∀ t', OkT t' → t' ≠ t → ∀ g, (f t').ownBlock = some g → v.ownBlock ≠ some g := fun t' ht' hne g hg' e => by
    rcases ho with ho | ⟨g', ho, hle⟩
    · rw [ho] at e; exact h.apart t' t ht' ht hne g hg' e
    · rw [ho] at e
      injection e with e
      have := ((h.row t' ht').lt g hg').2
      omega
  refine ⟨hm, fun t' ht' => ?_, fun t' t'' h1 h2 hne g hg' => ?_, hb1.grown hg2 hb1.size (fun k hk => ?_), h.lowb⟩
  · by_cases e : t' = t
    · subst e; simp only [if_pos]
      exact hr.grown hg2 (fun k hk e => vmap_ne hm1 hr (by rw [hk, e]))
    · simp only [if_neg e]
      exact (hr1 t' ht' e).grown hg2 (fun k hk e => vmap_ne hm1 (hr1 t' ht' (by assumption)) (by rw [hk, e]))
  · by_cases e1 : t' = t
    · subst e1
      have e2 : ¬ t'' = t' := fun e => hne e.symm
      simp only [if_true, if_neg e2] at hg' ⊢
      exact fun e => hnew t'' h2 e2 g e hg'
    · by_cases e2 : t'' = t
      · subst e2
        simp only [if_true, if_neg e1] at hg' ⊢
        exact hnew t' h1 e1 g hg'
      · simp only [if_neg e1, if_neg e2] at hg' ⊢
        exact h.apart t' t'' h1 h2 hne g hg'
  · injection hk with hk
    rw [← hk]; exact h.lowb
/-- A task's list lies in a new block. -/
theorem HM.renew {w wr w1 w2 : World} {b nn g : Nat} {l : Int → List Int} {f : Int → Value} {t : Int} {v : Value} {xs : List Int} (h : HM w b l f nn wr) (ht : OkT t) (hb : Below wr.heap.size wr w1) (hr : Row w1 wr.heap.size 3 1 v xs.length (xs.map (Value.int .i64)))
    (hv : v.ownBlock = some g) (hm : VMap w2 b (nn + 1) (fun z => if z = t then v else f z)) (hg2 : w1.grownBy w2 (some b)) :
    HM w b (fun z => if z = t then xs else l z) (fun z => if z = t then v else f z) (nn + 1) w2 := by
  have h1 := h.below hb
  have hle := (hr.lt g hv).1
  have hne : b ≠ g := by have := h.map.lt; omega
  have hr2 : Row w1 w.heap.size 3 1 v xs.length (xs.map (Value.int .i64)) := by
    refine ⟨hr.1, ?_⟩
    rcases hr.2 with h0 | ⟨g', o, cap, cur, e, hb', hx⟩
    · exact .inl h0
    · exact .inr ⟨g', o, cap, cur, e, Nat.le_trans h.bel.size hb', hx⟩
  refine ⟨hm, fun t' ht' => ?_, fun t' t'' q1 q2 hne' g' hg' => ?_, h1.bel.grown hg2 h1.bel.size (fun k hk => ?_), h.lowb⟩
  · by_cases e : t' = t
    · subst e; simp only [if_pos]
      exact hr2.grown hg2 (fun k hk e => vmap_ne h1.map hr (by rw [hk]; exact e.symm))
    · simp only [if_neg e]
      have := h1.row t' ht'
      exact this.grown hg2 (fun k hk e => vmap_ne h1.map this (by rw [hk]; exact e.symm))
  · by_cases e1 : t' = t
    · subst e1
      have e2 : ¬ t'' = t' := fun e => hne' e.symm
      simp only [if_true, if_neg e2] at hg' ⊢
      rw [hv] at hg'
      injection hg' with hg'
      intro e
      have := ((h.row t'' q2).lt g' e).2
      omega
    · by_cases e2 : t'' = t
      · subst e2
        simp only [if_true, if_neg e1] at hg' ⊢
        rw [hv]
        intro e
        injection e with e
        have := ((h.row t' q1).lt g' hg').2
        omega
      · simp only [if_neg e1, if_neg e2] at hg' ⊢
        exact h.apart t' t'' q1 q2 hne' g' hg'
  · injection hk with hk
    rw [← hk]; exact h.lowb
def ClP (W : World) (hs : List Int) (v : Value) (w' : World) : Prop := Row w' W.heap.size 3 1 v hs.length (hs.map (Value.int .i64)) ∧ Below W.heap.size W w'
def DlP (W : World) (g : Nat) (hs : List Int) (w7 : World) (v : Value) (w' : World) : Prop := ∃ o c, v = .slice (some ⟨g, o, none⟩) hs.length c ∧ Row w' W.heap.size 3 1 v hs.length (hs.map (Value.int .i64)) ∧ Fr (fun k => k = g) w7 w'
theorem clp_shape {W w' : World} {hs : List Int} {v : Value} (h : ClP W hs v w') (hn : 0 < hs.length) : ∃ g o c, v = .slice (some ⟨g, o, none⟩) hs.length c ∧ hs.length ≤ c ∧ c ≤ 9223372036854775807 ∧ W.heap.size ≤ g := by
  rcases h.1.2 with ⟨_, h0⟩ | ⟨g, o, c, cur, e, hb, _, hn, hm, _⟩
  · omega
  · exact ⟨g, o, c, e, hn, hm, hb⟩
theorem run13 (args : Array Value) (w : World) : (callFunc 13 args).run Try.prog w = .ok (.enter 13 args) w := by
  have h := Try.func13
  simp [callFunc, go_sem, h, Try.f13]
theorem run20 (args : Array Value) (w : World) : (callFunc 20 args).run Try.prog w = .ok (.enter 20 args) w := by
  have h := Try.func20
  simp [callFunc, go_sem, h, Try.f20]
set_option maxHeartbeats 4000000 in
set_option maxRecDepth 100000 in
theorem order_any (A : Option Addr) (n c : Nat) (rs : List Rc) (w : World) (B : Nat) (h : RR w B A n rs) (hB : B ≤ w.heap.size) (hn : n ≤ 9223372036854775807) :
    Calls Try.prog 11 #[.slice A n c] w (OrdPost rs w) := by
  have HL := Lib.hid h.2
  have hmk : ∀ W : World, (Instr.makeMap 49 none).run Try.prog W = .ok (.map (some W.heap.size)) (W.alloc (.map #[] 0)) := by intro W; rfl
  obtain ⟨i0, hi, hz0, hz1, hz2⟩ := info_parts Try.infoE
  obtain ⟨j0, hj, hy0, hy1, hy2⟩ := info_parts Try.infoI
  have HF := Lib.hid (tchecked_any A n c rs w B h hB hn)
  by_cases ht : traceErr rs = 0
  case neg =>
    have HT := Lib.hid ht
    have d : (traceErr rs != 0) = true := by simpa using ht
    have HX : Hid (∃ x, traceErr rs = x) := Lib.hid ⟨_, rfl⟩
    obtain ⟨x, hx⟩ := HX.out
    rw [hx] at HF d
    have HXX := Lib.hid hx
    clear ht hx HX
    go_enter Try.func11, Try.ntmps11
    go_wp2_with (go_at_call 18; refine HF.out.mono ?_; rintro e w1 ⟨rfl, hb1⟩)
    go_ret2
    exact ord_bad HXX.out (by rw [← HXX.out]; exact HT.out) rfl hb1
  obtain ⟨hsm, hgd⟩ := traceErr_good ht
  rw [ht] at HF
  have HT := Lib.hid ht
  have HG := Lib.hid hgd
  have hn4 : n ≤ 400 := by rw [← HL.out]; exact hsm
  clear ht hgd hsm
  go_enter Try.func11, Try.ntmps11
  go_wp2_with (go_at_call 18; refine HF.out.mono ?_; rintro e w4 ⟨rfl, hb4⟩)
  have hz4 := hb4.size
  have hs0 := VMap.made w4
  have hb0 : Below w.heap.size w (w4.alloc (.map #[] 0)) := hb4.alloc hz4 _
  obtain ⟨b, hb⟩ : ∃ b, b = w4.heap.size := ⟨_, rfl⟩
  obtain ⟨W0, hW0⟩ : ∃ W0, W0 = w4.alloc (.map #[] 0) := ⟨_, rfl⟩
  have hbw : w.heap.size ≤ b := by omega
  rw [← hb] at hs0
  rw [← hW0] at hs0 hb0 ⊢
  rw [← hb]
  clear hb hW0 hb4 hz4 HF
  have HM0 : Hid (HM w b (fun t => hd (rs.take 0) t) (fun _ => .slice none 0 0) 0 W0) := Lib.hid ⟨hs0, fun t _ => by simpa [hd] using Row.nil W0 w.heap.size 3 1, fun t t' _ _ _ g hg => by simp [Value.ownBlock] at hg, hb0, hbw⟩
  clear hs0 hb0
  go_loopw [6, 21] (fun v i wr => ∃ (k nn : Nat) (f : Int → Value), k ≤ n ∧ i = .int .i64 k ∧ nn ≤ k ∧ Hid (HM w b (fun t => hd (rs.take k) t) f nn wr) ∧ Hid (Row wr w.heap.size 37 2 v (outE rs k).length ((outE rs k).flatMap edgeCl))) (fun _ i _ => n - (intOf i).toNat)
  case atStart => exact ⟨0, 0, _, by omega, rfl, by omega, HM0, Lib.hid (Row.nil _ _ _ _)⟩
  case round =>
    clear HM0
    obtain ⟨k, nn, f, hk, rfl, hnn, HM, HR⟩ := hrel
    obtain ⟨A6, c6, rfl, hc6, -⟩ := HR.out.shape
    by_cases hlt : k < n
    · obtain ⟨b2, o2, rfl, hbb, k0, k1, k2, k3⟩ := (h.below' HM.out.bel hB).at_ hlt
      have hkn : (k : Int) < n := by omega
      have hkl : k < rs.length := by rw [HL.out]; exact hlt
      have hbs := HM.out.bel.size
      have hbr : b2 < wr.heap.size := by omega
      have hg := Rc.good (HG.out k hkl)
      have HOE : Hid (outE rs (k + 1) = outE rs k ++ if (rs.getD k .zero).k = 1 then (hd (rs.take k) (rs.getD k .zero).t).map (fun h => (h, (rs.getD k .zero).o)) else []) := Lib.hid rfl
      have hol := outE_len rs k (by omega) (by omega)
      have hhl := hd_len rs (rs.getD k .zero).t k (by omega)
      have HHT : Hid (∀ t, hd (rs.take (k + 1)) t = hd1 t (hd (rs.take k) t) (rs.getD k .zero)) := Lib.hid (fun t => hd_take rs k hkl t)
      generalize rs.getD k .zero = r at *
      obtain ⟨rk, rc, rt, ro⟩ := r
      dsimp only at k0 k1 k2 k3 hg HOE hhl HHT
      have hok : OkT rt := ⟨by omega, by omega⟩
      have hwf : (Lit.int .i64 rt).wf = true := by simp [Lit.wf, IntKind.min, IntKind.max, IntKind.signed, IntKind.bits]; omega
      have HM1 := Lib.hid (HM.out.alloc (.cells #[.int .i64 rk, .int .i64 rc, .int .i64 rt, .int .i64 ro] 51))
      have HR1 := Lib.hid (HR.out.alloc (.cells #[.int .i64 rk, .int .i64 rc, .int .i64 rt, .int .i64 ro] 51))
      have hlk := HM1.out.map.look hwf
      have hrow := HM1.out.row rt hok
      obtain ⟨A9, c9, hv9, hc9, -⟩ := hrow.shape
      rw [hv9] at hlk
      have HV9 := Lib.hid hv9
      clear hv9 hrow
      by_cases hk1 : rk = 1
      · subst hk1
        have HOE2 := Lib.hid (HOE.out.trans (by rw [if_pos rfl]))
        have HL1 : Hid (∀ t, hd (rs.take (k + 1)) t = if t = rt then hd (rs.take k) rt ++ [ro] else hd (rs.take k) t) := Lib.hid (fun t => by
          rw [HHT.out]; unfold hd1
          by_cases e : rt = t
          · subst e; simp
          · have e' : ¬ t = rt := fun x => e x.symm
            simp [e, e'])
        have HBX := Lib.hid (Blk.new wr #[.int .i64 1, .int .i64 rc, .int .i64 rt, .int .i64 ro] 51)
        have HRW := Lib.hid (HM1.out.row rt hok)
        rw [HV9.out] at HRW
        clear hg HOE HHT HM HR
        generalize hd (rs.take k) rt = hs at *
        obtain ⟨W, hW⟩ : ∃ W, W = wr := ⟨_, rfl⟩
        subst hW
        have hhs : hs.length ≤ 400 := by omega
        go_wp2
        go_loopw [6, 35] (fun v i wr => ∃ j : Nat, j ≤ hs.length ∧ i = .int .i64 j ∧ Hid (HM w b (fun t => hd (rs.take k) t) f nn wr) ∧ Hid (Row wr w.heap.size 37 2 v (outE rs k ++ (hs.take j).map (fun h => (h, ro))).length ((outE rs k ++ (hs.take j).map (fun h => (h, ro))).flatMap edgeCl)) ∧ Hid (Blk wr W.heap.size #[.int .i64 1, .int .i64 rc, .int .i64 rt, .int .i64 ro] 51) ∧
            Hid (Row wr w.heap.size 3 1 (.slice A9 hs.length c9) hs.length (hs.map (Value.int .i64)))) (fun _ i _ => hs.length - (intOf i).toNat)
        case atStart => exact ⟨0, by omega, rfl, HM1, Lib.hid (by simpa using HR1.out), HBX, HRW⟩
        case round =>
          clear HM1 HR1 HBX HRW
          obtain ⟨j, hj', rfl, HM1, HR1, HBX, HRW⟩ := hrel
          obtain ⟨A8, c8, rfl, hc8, -⟩ := HR1.out.shape
          by_cases hjl : j < hs.length
          · obtain ⟨b7, o7, rfl, hb7, hc7⟩ := (RD.of_row HRW.out).at_ hjl
            have hjz : (j : Int) < hs.length := by omega
            have hbo := HBX.out.cell 3
            have hbl := HBX.out.lt
            have hjs : (outE rs k ++ (hs.take j).map (fun h => (h, ro))).length ≤ 200000 := by
              rw [List.length_append, List.length_map, List.length_take]; omega
            have HTK : Hid (outE rs k ++ (hs.take (j + 1)).map (fun h => (h, ro)) = (outE rs k ++ (hs.take j).map (fun h => (h, ro))) ++ [(hs.getD j 0, ro)]) := Lib.hid (by rw [take_one hjl, List.map_append, List.append_assoc]; rfl)
            have hbs2 := HM1.out.bel.size
            generalize hs.getD j 0 = x at *
            generalize outE rs k ++ (hs.take j).map (fun h => (h, ro)) = js at *
            have hra := HR1.out.alloc (.cells #[.int .i64 x, .int .i64 ro] 37)
            go_wp2_with (at_builtin; refine wpList_append_row _ rfl (.tmp 39) (.tmp 44) 22 rfl w.heap.size 37 i0 (.agg #[.int .i64 0, .int .i64 0]) 2 16 Try.underlying22 hi hz0 hz1 hz2 rfl (by decide) (.slice A8 js.length c8) js.length (js.flatMap edgeCl) rfl hra (wr.heap.size + 1) (some ⟨wr.heap.size, 0, none⟩) 1 1 [.int .i64 x, .int .i64 ro] rfl (edge_read1 wr x ro) (by simp [Value.oneCell']) (by unfold maxLen; omega) (by omega) (by simp; omega) ?_)
            intro A5 c5 w5 hr5 hg5 ho5
            have hl5 : (js ++ [(x, ro)]).length = js.length + 1 := by simp
            have HR5 : Hid (Row w5 w.heap.size 37 2 (.slice A5 (js.length + 1) c5) (js ++ [(x, ro)]).length ((js ++ [(x, ro)]).flatMap edgeCl)) := Lib.hid (by
              rw [hl5, List.flatMap_append]; simpa [edgeCl] using hr5)
            have HM5 := Lib.hid ((HM1.out.alloc (.cells #[.int .i64 x, .int .i64 ro] 37)).other hra hg5)
            have hbxa := HBX.out.alloc (.cells #[.int .i64 x, .int .i64 ro] 37)
            have HBX5 := Lib.hid (hbxa.grown hg5 (fun e => by
              rcases hra.2 with ⟨e1, _⟩ | ⟨g', o', cap, cur, e1, _, hh, _⟩
              · injection e1 with e1; subst e1; simp [Value.ownBlock] at e
              · injection e1 with e1; subst e1
                have : W.heap.size = g' := by simpa [Value.ownBlock] using e
                unfold Blk at hbxa
                rw [this] at hbxa
                rw [hbxa] at hh
                injection hh with hh
                injection hh with _ hh
                exact absurd hh (by decide)))
            have HRW5 := Lib.hid ((HRW.out.alloc (.cells #[.int .i64 x, .int .i64 ro] 37)).grown hg5 (fun k hk e => row_ne (HRW.out.alloc (.cells #[.int .i64 x, .int .i64 ro] 37)) hra (by decide) k hk e))
            clear hr5 hg5 ho5 hra hbxa HM1 HR1 HBX HRW hlk
            go_wp2
            go_roundw
            case rel => exact ⟨j + 1, by omega, by go_num, HM5, by rw [HTK.out]; exact HR5, HBX5, HRW5⟩
            case measure => simp [intOf]; omega
          · obtain rfl : j = hs.length := by omega
            have HR2 : Hid (Row wr w.heap.size 37 2 (.slice A8 (outE rs k ++ (hs.take hs.length).map (fun h => (h, ro))).length c8) (outE rs (k + 1)).length ((outE rs (k + 1)).flatMap edgeCl)) := Lib.hid (by rw [HOE2.out]; have := HR1.out; rw [List.take_length] at this ⊢; exact this)
            obtain ⟨M, hM⟩ : ∃ M, M = (outE rs k ++ (hs.take hs.length).map (fun h => (h, ro))).length := ⟨_, rfl⟩
            rw [← hM] at HR2 ⊢
            clear hM hc8
            have kb2 := HBX.out.cell 2
            have kb3 := HBX.out.cell 3
            have kbl := HBX.out.lt
            have hbs2 := HM1.out.bel.size
            have hmd := HM1.out.map.drew.alloc (.cells #[.int .i64 ro] 3)
            have hrd := HRW.out.drew.alloc (.cells #[.int .i64 ro] 3)
            have HAF : Hid (∀ w7 A7 c7, (wr.drew.alloc (.cells #[.int .i64 ro] 3)).grownBy w7 (Value.slice A9 hs.length c9).ownBlock → ∃ w10, (Instr.mapUpdate 49 (.map (some b)) (.int .i64 rt) (.slice A7 (hs.length + 1) c7)).run Try.prog w7 = .ok () w10 ∧ VMap w10 b (nn + 1) (fun z => if z = rt then .slice A7 (hs.length + 1) c7 else f z) ∧ w7.grownBy w10 (some b)) := Lib.hid (fun w7 A7 c7 hg =>
              (hmd.grown hg (vmap_ne hmd hrd)).update (by unfold maxLen; omega) hwf _)
            have hbd := HBX.out.drew.alloc (.cells #[.int .i64 ro] 3)
            have hbne : ∀ k, (Value.slice A9 hs.length c9).ownBlock = some k → k ≠ W.heap.size := fun k hk e => by
              subst e
              rcases hrd.2 with ⟨e1, _⟩ | ⟨g', o', cap, cur, e1, _, hh, _⟩
              · injection e1 with e1; subst e1; simp [Value.ownBlock] at hk
              · injection e1 with e1; subst e1
                have : g' = W.heap.size := by simpa [Value.ownBlock] using hk
                unfold Blk at hbd
                rw [this, hbd] at hh
                injection hh with hh
                injection hh with _ hh
                exact absurd hh (by decide)
            have HBN : Hid (∀ w7, (wr.drew.alloc (.cells #[.int .i64 ro] 3)).grownBy w7 (Value.slice A9 hs.length c9).ownBlock → Blk w7 W.heap.size #[.int .i64 1, .int .i64 rc, .int .i64 rt, .int .i64 ro] 51) := Lib.hid (fun w7 hg => hbd.grown hg (fun e => hbne _ e.symm rfl))
            clear hbne
            go_wp2
            go_region_law (refine step_append_row rfl (.tmp 50) (.tmp 53) 23 rfl w.heap.size 3 j0 (.int .i64 0) 1 8 Try.underlying23 hj hy0 hy1 hy2 rfl (by decide) (.slice A9 hs.length c9) hs.length (hs.map (Value.int .i64)) (by simp [Act.eval, Act.put]) hrd (wr.heap.size + 1) (some ⟨wr.heap.size, 0, none⟩) 1 1 [.int .i64 ro] (by simp [Act.eval, Act.put]) (reads_one wr.drew (.int .i64 ro) 3) (by simp [Value.oneCell']) (by unfold maxLen; omega) (by omega) (by simp; omega) ?_; intro A7 c7 w7 hr7 hg7 ho7; obtain ⟨w10, hup10, hm10, hg10⟩ := HAF.out w7 A7 c7 hg7; have m2 := (HBN.out w7 hg7).cell 2; have m3 := (HBN.out w7 hg7).cell 3; have ml := (HBN.out w7 hg7).lt)
            all_goals (
              have hHR : Row w10 w.heap.size 37 2 (.slice A8 M c8) (outE rs (k + 1)).length ((outE rs (k + 1)).flatMap edgeCl) := by
                have h1 := HR2.out.drew.alloc (.cells #[.int .i64 ro] 3)
                have h2 := h1.grown hg7 (fun k hk e => row_ne h1 hrd (by decide) k hk e)
                exact h2.grown hg10 (fun k hk e => vmap_ne ((HM1.out.drew.alloc (.cells #[.int .i64 ro] 3)).map.grown hg7 (vmap_ne (HM1.out.drew.alloc (.cells #[.int .i64 ro] 3)).map hrd)) h2 (by rw [hk]; exact e.symm))
              have hHM : HM w b (fun t => hd (rs.take (k + 1)) t) (fun z => if z = rt then .slice A7 (hs.length + 1) c7 else f z) (nn + 1) w10 := by
                have e1 : (fun t => hd (rs.take (k + 1)) t) = fun t => if t = rt then hs ++ [ro] else hd (rs.take k) t := funext HL1.out
                rw [e1]
                have hf := HV9.out
                refine (HM1.out.drew.alloc (.cells #[.int .i64 ro] 3)).put hok (by rw [hf]; exact hg7) (by simpa using hr7) (by rw [hf]; exact ho7.imp id (fun e => ⟨_, e, Nat.le_refl _⟩)) hm10 hg10
              have HR9 := Lib.hid hHR
              have HM9 := Lib.hid hHM
              clear hHR hHM hr7 hg7 ho7 hm10 hg10 HAF HBN HM1 HR1 HR2 HRW hmd hrd hbd HBX HOE2 HL1 HV9
              go_wp2
              exact ⟨⟨k + 1, nn + 1, _, by omega, by go_num, by omega, HM9, HR9⟩, by simp [intOf]; omega⟩)
      · have d : (rk == 1) = false := by simpa using hk1
        have HOE2 := Lib.hid (HOE.out.trans (by rw [if_neg hk1, List.append_nil]))
        by_cases hk2 : rk = 2
        · subst hk2
          have HL3 : Hid (∀ t, hd (rs.take (k + 1)) t = if t = rt then without1 (hd (rs.take k) rt) ro else hd (rs.take k) t) := Lib.hid (fun t => by
            rw [HHT.out]; unfold hd1
            by_cases e : rt = t
            · subst e; simp
            · have e' : ¬ t = rt := fun x => e x.symm
              simp [e, e'])
          have HRW := Lib.hid (HM1.out.row rt hok)
          have HBX := Lib.hid (Blk.new wr #[.int .i64 2, .int .i64 rc, .int .i64 rt, .int .i64 ro] 51)
          rw [HV9.out] at HRW
          clear hk1 hg HOE HHT HM HR
          generalize hhs : hd (rs.take k) rt = hs at *
          have HHS := Lib.hid hhs
          clear hhs
          have hhn : hs.length ≤ 400 := by omega
          have HIX := Lib.hid (index_any A9 hs.length c9 ro hs _ _ (RD.of_row HRW.out) (by omega))
          obtain ⟨W, hW⟩ : ∃ W, W = wr.alloc (.cells #[.int .i64 2, .int .i64 rc, .int .i64 rt, .int .i64 ro] 51) := ⟨_, rfl⟩
          have kb2 := HBX.out.cell 2
          have kb3 := HBX.out.cell 3
          have kbl := HBX.out.lt
          obtain ⟨q, hq⟩ : ∃ q, q = wr.heap.size := ⟨_, rfl⟩
          have hbsW : w.heap.size ≤ W.heap.size := by rw [hW]; simp; omega
          rcases idxI_cases hs ro with ⟨hi0, hi1⟩ | ⟨i, hi0, hi1, hi2⟩
          · rw [hi0] at HIX
            have HL4 : Hid (∀ t, hd (rs.take (k + 1)) t = hd (rs.take k) t) := Lib.hid (fun t => by
              rw [HL3.out, hi1]
              by_cases e : t = rt
              · rw [e, if_pos rfl, HHS.out]
              · rw [if_neg e])
            clear hi0 hi1 HL3 hW hq hbsW kb2 kb3 kbl
            go_wp2_with (go_at_call 19; refine HIX.out.mono ?_; rintro e w6 ⟨rfl, rfl⟩)
            go_roundw
            case rel => exact ⟨k + 1, nn, f, by omega, by go_num, by omega, Lib.hid (by have e : (fun t => hd (rs.take (k + 1)) t) = fun t => hd (rs.take k) t := funext HL4.out; rw [e]; exact HM1.out), by rw [HOE2.out]; exact HR1⟩
            case measure => simp [intOf]; omega
          · rw [hi1] at HIX
            have hi63 : (i : Int) < 400 := by omega
            have HL4 : Hid ((fun t => hd (rs.take (k + 1)) t) = fun t => if t = rt then hs.eraseIdx i else hd (rs.take k) t) := Lib.hid (by rw [← hi2]; exact funext HL3.out)
            have hwi : IntKind.i64.wrap ((i : Int) + 1) = (i : Int) + 1 := IntWalk.i64_in _ (by omega)
            have hge : ((0 : Int) ≤ (i : Int)) := by omega
            have hCL : Calls Try.prog 13 #[.slice A9 hs.length c9] W.drew (fun e w' => ∃ v, e = .returned v ∧ ClP W hs v w') := by
              rw [hW]
              refine (clone_any A9 hs.length c9 hs _ _ (RD.of_row (HRW.out.drew)) (Nat.le_refl _) (by omega)).mono ?_
              rintro e w' ⟨v, rfl, h1, h2⟩
              exact ⟨v, rfl, h1, ⟨h2.os, h2.tape, h2.output, h2.size, h2.block⟩⟩
            have hDL : ∀ w7 g o c, Row w7 W.heap.size 3 1 (.slice (some ⟨g, o, none⟩) hs.length c) hs.length (hs.map (Value.int .i64)) → hs.length ≤ c ∧ c ≤ 9223372036854775807 →
                Calls Try.prog 20 #[.slice (some ⟨g, o, none⟩) hs.length c, .int .i64 i, .int .i64 ((i : Int) + 1)] w7 (fun e w' => ∃ v, e = .returned v ∧ DlP W g (hs.eraseIdx i) w7 v w') := fun w7 g o c hr hc => by
              refine (delete_any g o hs.length c i (hs.map (Value.int .i64)) w7 _ hr (int_oneCell hs) hi0 hc).mono ?_
              rintro e w' ⟨rfl, h1, h2⟩
              have e1 : (hs.eraseIdx i).length = hs.length - 1 := by rw [List.length_eraseIdx_of_lt hi0]
              have e2 : (hs.map (Value.int .i64)).eraseIdx i = (hs.eraseIdx i).map (Value.int .i64) := by simp [List.eraseIdx_eq_take_drop_succ]
              exact ⟨_, rfl, o, c, by rw [e1], by rw [e1, ← e2]; exact h1, h2⟩
            have hHW : HM w b (fun t => hd (rs.take k) t) f nn W := by rw [hW]; exact HM1.out
            have hRW : Row W w.heap.size 37 2 (.slice A6 (outE rs k).length c6) (outE rs k).length ((outE rs k).flatMap edgeCl) := by rw [hW]; exact HR1.out
            have hBW : Blk W q #[.int .i64 2, .int .i64 rc, .int .i64 rt, .int .i64 ro] 51 := by rw [hW, hq]; exact HBX.out
            have HAF : Hid (∀ w7 w9 g v v7, ClP W hs v7 w7 → v7.ownBlock = some g → DlP W g (hs.eraseIdx i) w7 v w9 → Blk w7 q #[.int .i64 2, .int .i64 rc, .int .i64 rt, .int .i64 ro] 51 ∧ Blk w9 q #[.int .i64 2, .int .i64 rc, .int .i64 rt, .int .i64 ro] 51 ∧
                ∃ w10, (Instr.mapUpdate 49 (.map (some b)) (.int .i64 rt) v).run Try.prog w9 = .ok () w10 ∧ HM w b (fun t => hd (rs.take (k + 1)) t) (fun z => if z = rt then v else f z) (nn + 1) w10 ∧
                  Row w10 w.heap.size 37 2 (.slice A6 (outE rs k).length c6) (outE rs k).length ((outE rs k).flatMap edgeCl)) := Lib.hid (fun w7 w9 g v v7 h7 hv7 h9 => by
              obtain ⟨o, c, rfl, h91, h92⟩ := h9
              have hgl := (h7.1.lt g hv7).1
              have hb9 : Below W.heap.size W w9 := h7.2.trans (h92.below h7.2.size (fun k e => by omega))
              have hm9 := hHW.below hb9
              obtain ⟨w10, hup, hm10, hg10⟩ := hm9.map.update (by unfold maxLen; omega) hwf (Value.slice (some ⟨g, o, none⟩) (hs.eraseIdx i).length c)
              refine ⟨hBW.fr (Fr.of_grow h7.2) (fun h => h), hBW.fr (Fr.of_grow hb9) (fun h => h), w10, hup, ?_, ?_⟩
              · rw [HL4.out]
                exact hHW.renew hok hb9 h91 rfl hm10 hg10
              · have hr9 := hRW.grow hb9
                exact hr9.grown hg10 (fun k hk e => vmap_ne hm9.map hr9 (by rw [hk]; exact e.symm)))
            have HBXC : Hid (∀ w7 v7, ClP W hs v7 w7 → Blk w7 q #[.int .i64 2, .int .i64 rc, .int .i64 rt, .int .i64 ro] 51) := Lib.hid (fun w7 v7 h7 => hBW.fr (Fr.of_grow h7.2) (fun h => h))
            have HCL := Lib.hid hCL
            have HDL := Lib.hid hDL
            clear hCL hDL hHW hRW hBW hi1 hi2 HL3 hbsW
            subst hW
            have hq2 := hq
            clear hq
            rw [← hq2] at kb2 kb3 kbl
            go_wp2_with (go_at_call 19; refine HIX.out.mono ?_; rintro e w6 ⟨rfl, rfl⟩)
            subst hq2
            clear HM1 HR1 HBX HRW HIX hlk k0 k1 k2 k3
            go_region_law (first | (refine step_call_go rfl 13 #[.tmp 66] #[23] rfl #[.slice A9 hs.length c9] (by simp [Act.eval, Act.put]) (run13 #[.slice A9 hs.length c9] _) (ClP _ hs) HCL.out ?_; intro v7 w7 h7; obtain ⟨g7, o7, c7, rfl, hc7, hc7m, hg7⟩ := clp_shape h7 (by omega); have m2 := (HBXC.out w7 _ h7).cell 2; have m3 := (HBXC.out w7 _ h7).cell 3; have ml := (HBXC.out w7 _ h7).lt) | (refine step_call_go rfl 20 #[.tmp 67, .tmp 68, .tmp 70] #[23, 3, 3] rfl #[.slice (some ⟨g7, o7, none⟩) hs.length c7, .int .i64 i, .int .i64 ((i : Int) + 1)] (by simp [Act.eval, Act.put]) (run20 #[.slice (some ⟨g7, o7, none⟩) hs.length c7, .int .i64 i, .int .i64 ((i : Int) + 1)] w7) (DlP _ g7 (hs.eraseIdx i) w7) (HDL.out w7 g7 o7 c7 h7.1 ⟨hc7, hc7m⟩) ?_; intro v9 w9 h9; obtain ⟨hx7, hx9, w10, hup10, hm10, hr10⟩ := HAF.out w7 w9 g7 v9 _ h7 rfl h9; have n2 := hx9.cell 2; have n3 := hx9.cell 3; have nl := hx9.lt) | fail)
            all_goals (
              have HR9 := Lib.hid hr10
              have HM9 := Lib.hid hm10
              clear hr10 hm10 HAF HCL HDL hup10
              go_wp2
              exact ⟨⟨k + 1, nn + 1, _, by omega, by go_num, by omega, HM9, by rw [HOE2.out]; exact HR9⟩, by simp [intOf]; omega⟩)
        · have d2 : (rk == 2) = false := by simpa using hk2
          have HL2 : Hid (∀ t, hd (rs.take (k + 1)) t = hd (rs.take k) t) := Lib.hid (fun t => by rw [HHT.out]; unfold hd1; simp [hk1, hk2])
          clear hk1 hk2 hg HOE HHT
          go_wp2
          go_roundw
          case rel => exact ⟨k + 1, nn, f, by omega, by go_num, by omega, Lib.hid (by have e : (fun t => hd (rs.take (k + 1)) t) = fun t => hd (rs.take k) t := funext HL2.out; rw [e]; exact HM1.out), by rw [HOE2.out]; exact HR1⟩
          case measure => simp [intOf]; omega
    · obtain rfl : k = n := by omega
      have hol := outE_len rs k (by rw [HL.out]; omega) (by omega)
      have HP : Hid (Lib.compact ((outE rs k).mergeSort leE) = ordL rs) := Lib.hid (by
        rw [sorted_lex (outE_ok HG.out k (by rw [HL.out]; exact Nat.le_refl _))]
        unfold ordL
        rw [if_pos HT.out, HL.out])
      have hlen : ((outE rs k).mergeSort leE).length = (outE rs k).length := List.length_mergeSort _
      have HS := Lib.hid (sort_row A6 (outE rs k).length c6 w.heap.size (outE rs k) wr HR.out rfl (by omega))
      have hown := HR.out.lt
      have HBW := Lib.hid HM.out.bel
      generalize (outE rs k).mergeSort leE = ss at *
      generalize (outE rs k).length = M at *
      clear HR HM
      go_wp2_with fail
      refine HS.out.mono ?_
      rintro e w1 ⟨rfl, hr1, hf1⟩
      have hb1 := HBW.out.trans (hf1.below HBW.out.size (fun k hk => (hown k hk).1))
      have HC := Lib.hid (compact_row A6 M c6 w.heap.size ss w1 hr1 hlen (by omega))
      have hown1 := hr1.lt
      have HB1 := Lib.hid hb1
      clear hr1 hf1 hb1 HBW HS
      go_wp2_with fail
      refine HC.out.mono ?_
      rintro e w2 ⟨rfl, hr2, hf2⟩
      rw [HP.out] at hr2 ⊢
      have HB2 := Lib.hid (HB1.out.trans (hf2.below HB1.out.size (fun k hk => (hown1 k hk).1)))
      have hle2 := HB2.out.size
      have HCL := Lib.hid (clone25_any A6 (ordL rs).length c6 (ordL rs) w2 _ (re_row hr2 rfl) (Nat.le_refl _) (by have := ordL_len rs; omega))
      generalize hos : ordL rs = os at *
      have HOS := Lib.hid hos
      clear hos
      clear hr2 hf2 HC hown1 HB1 hown HP
      go_wp2_with fail
      refine HCL.out.mono ?_
      rintro e w3 ⟨v3, rfl, hr3, hb3⟩
      go_wp2
      go_ret2
      exact ⟨_, by rw [HT.out]; rfl, by rw [HOS.out]; exact hr3.base_le hle2, HB2.out.trans (hb3.mono hle2)⟩
end Go.Proofs.Ytmfalafolpfhiaa
