/- Contract of obj.From. -/
import Derived.Test.YtgmpcdonmlhohaaObF
import Derived.Deep.Light
namespace Go.Proofs.Ytgmpcdonmlhohaa
open Go.RowKit
set_option maxHeartbeats 400000
set_option linter.unusedVariables false
set_option linter.unusedSimpArgs false
theorem one_nm (s : ByteArray) (wh ad : Int) (wk : Bool) : ∀ u ∈ [Value.string s, .int .i64 wh, .int .i64 ad, .bool wk], u.oneCell' = true := by
  intro u hu
  simp only [List.mem_cons, List.not_mem_nil, or_false] at hu
  rcases hu with rfl | rfl | rfl | rfl <;> rfl
theorem ob_reads (w : World) (t : TypeId) (s m : Nat) (xs : List Value) (hl : xs.length = m * s) : Reads (w.alloc (.cells xs.toArray t)) (w.heap.size + 1) s (some ⟨w.heap.size, 0, none⟩) m xs := by
  refine ⟨hl, fun _ => ⟨w.heap.size, 0, rfl, by omega, fun j u hu => ?_⟩⟩
  rw [(Blk.new w xs.toArray t).cell]
  simpa using hu
def made (ms ks : List Mk) : List Nm := ms.map (nmOf 1) ++ ks.map (nmOf 2)
def errOf (n0 n1 n3 : Nat) (ns : List Nm) (ds : List Nd) : Int := objErr ⟨none, n0, 0, none, n1, 0, none, ns.length, 0, none, n3, 0, ns, ds⟩
def MadePost (w : World) (ws bs : List Int) (ns : List Nm) (ds : List Nd) (E : Int) (e : Ending) (w' : World) : Prop :=
  ∃ o : Ob, e = .returned (.tuple #[.agg o.vals, .int .i64 E]) ∧ o.Full w' w'.heap.size (if E = 0 then ws else []) (if E = 0 then bs else []) ∧ o.ns = (if E = 0 then ns else []) ∧ o.ds = (if E = 0 then ds else []) ∧ Below w.heap.size w w'
theorem FromSt.grow {w W W' : World} {g n0 n1 n3 : Nat} {v0 v1 vN v3 : Value} {ws bs : List Int} {ns : List Nm} {ds : List Nd} (h : FromSt w W g n0 n1 n3 v0 v1 vN v3 ws bs ns ds) (hb : Below W.heap.size W W') : FromSt w W' g n0 n1 n3 v0 v1 vN v3 ws bs ns ds :=
  ⟨h.blk.fr (Fr.of_grow hb) (fun h => h), h.o0.grow hb, h.o1.grow hb, h.oN.grow hb, h.o3.grow hb, h.low, h.below.trans (hb.mono h.below.size), h.res.fr (Fr.of_grow hb) (fun h => h)⟩
def set4b (W : World) (g : Nat) (a b c d : Value) : World := (((W.setCell ⟨g, 0, none⟩ a).setCell ⟨g, 1, none⟩ b).setCell ⟨g, 2, none⟩ c).setCell ⟨g, 3, none⟩ d
theorem fr4b (W : World) (g : Nat) (a b c d : Value) : Fr (fun k => k = g) W (set4b W g a b c d) :=
  ((((Fr.refl (fun k => k = g) W).setCell (p := ⟨g, 0, none⟩) (fun _ => rfl) _).setCell (p := ⟨g, 1, none⟩) (fun _ => rfl) _).setCell (p := ⟨g, 2, none⟩) (fun _ => rfl) _).setCell (p := ⟨g, 3, none⟩) (fun _ => rfl) _
theorem OwnS.at_ {w : World} {base e size n c : Nat} {A : Option Addr} {xs : List Value} (h : OwnS w base e size n (.slice A n c) xs) : Reads w w.heap.size size A n xs := by
  obtain ⟨A', c', e1, hr⟩ := h
  injection e1 with e2 _ e3
  subst e2
  subst e3
  exact hr.reads
theorem FromSt.full {w W w4 : World} {g n0 n1 n3 nN d0 d1 cN d3 : Nat} {X0 X1 AN X3 : Option Addr} {ws bs : List Int} {ns : List Nm} {ds : List Nd}
    (h : FromSt w W g n0 n1 n3 (.slice X0 n0 d0) (.slice X1 n1 d1) (.slice AN nN cN) (.slice X3 n3 d3) ws bs ns ds) (hl : ns.length = nN) (hbs : Byt bs) (hns : ∀ x ∈ ns, x.fine) (hdl : ds.length = n3) (hdf : ∀ x ∈ ds, x.fine)
    (m0 : n0 ≤ 9223372036854775807) (m1 : n1 ≤ 9223372036854775807) (m2 : nN ≤ 9223372036854775807) (m3 : n3 ≤ 9223372036854775807) (hf : Fr (fun k => k = w.heap.size + 1) W w4) :
    Ob.Full ⟨X0, n0, d0, X1, n1, d1, AN, nN, cN, X3, n3, d3, ns, ds⟩ w4 w4.heap.size ws bs ∧ Below w.heap.size w w4 := by
  subst hl
  have ne : ∀ {e size n : Nat} {v : Value} {xs : List Value}, OwnS W w.heap.size e size n v xs → e ≠ 38 → OwnS w4 w.heap.size e size n v xs := fun ho h1 => ho.fr hf (fun k hk e => row_blk ho.row h.res h1 (e ▸ hk))
  exact ⟨⟨⟨⟨⟨(ne h.oN (by decide)).at_, rfl⟩, hns⟩, ⟨⟨(ne h.o3 (by decide)).at_, hdl⟩, hdf⟩, m0, m1, m2, m3⟩, (ne h.o0 (by decide)).at_, ⟨(ne h.o1 (by decide)).at_, hbs⟩⟩, h.below.trans (hf.below h.below.size (fun k e => by omega))⟩
theorem HF5b {w W : World} {g n0 n1 n3 : Nat} {v0 v1 vN v3 a b c d : Value} {ws bs : List Int} {ns : List Nm} {ds : List Nd} (h : FromSt w W g n0 n1 n3 v0 v1 vN v3 ws bs ns ds) : Below w.heap.size w (set4b W (w.heap.size + 1) a b c d) :=
  h.below.trans ((fr4b W (w.heap.size + 1) a b c d).below h.below.size (fun k e => by omega))
theorem MadePost.bad {w w' : World} {ws bs : List Int} {ns : List Nm} {ds : List Nd} {E : Int} (hE : E ≠ 0) (hb : Below w.heap.size w w') : MadePost w ws bs ns ds E (.returned (.tuple #[.agg #[.slice none 0 0, .slice none 0 0, .slice none 0 0, .slice none 0 0], .int .i64 E])) w' := by
  refine ⟨⟨none, 0, 0, none, 0, 0, none, 0, 0, none, 0, 0, [], []⟩, rfl, ?_, by rw [if_neg hE], by rw [if_neg hE], hb⟩
  rw [if_neg hE, if_neg hE]
  exact ⟨⟨⟨⟨Reads.none_, rfl⟩, fun x hx => by cases hx⟩, ⟨⟨Reads.none_, rfl⟩, fun x hx => by cases hx⟩, by simp, by simp, by simp, by simp⟩, Reads.none_, ⟨Reads.none_, fun x hx => by cases hx⟩⟩
theorem box3 {w w1 : World} {x0 x1 x2 : Value} {t : TypeId} {X : Obj} (hb : Below ((w.alloc (.cells #[x0, x1, x2] t)).alloc X).heap.size ((w.alloc (.cells #[x0, x1, x2] t)).alloc X) w1) : Blk w1 w.heap.size #[x0, x1, x2] t :=
  ((Blk.new w #[x0, x1, x2] t).alloc X).fr (Fr.of_grow hb) (fun h => h)
set_option maxHeartbeats 4000000 in
set_option maxRecDepth 100000 in
theorem from_any (A0 Am A3 A1 Ak : Option Addr) (n0 c0 nm cm n3 c3 n1 c1 nk ck : Nat) (ws bs : List Int) (ms ks : List Mk) (ds : List Nd) (w : World) (B : Nat) (hB : B ≤ w.heap.size)
    (hw : RW w B A0 n0 ws) (hm : RM w B Am nm ms) (hd : RD w B A3 n3 ds) (hb : RB w B A1 n1 bs) (hk : RM w B Ak nk ks) (l0 : n0 * 4 ≤ 140737488355328) (lm : nm + nk ≤ 1099511627776) (l3 : n3 * 32 ≤ 140737488355328) (l1 : n1 ≤ 140737488355328)  :
    Calls Try.prog 10 #[.agg #[.slice A0 n0 c0, .slice Am nm cm, .slice A3 n3 c3], .slice A1 n1 c1, .slice Ak nk ck] w (MadePost w ws bs (made ms ks) ds (errOf n0 n1 n3 (made ms ks) ds)) := by
  obtain ⟨iw, hiw, hzw0, hzw1, hzw2⟩ := info_parts infoW
  obtain ⟨iD, hiD, hzD0, hzD1, hzD2⟩ := info_parts infoD
  obtain ⟨iN, hiN, hzN0, hzN1, hzN2⟩ := info_parts infoN
  have HLM := Lib.hid hm.len
  have HLK := Lib.hid hk.len
  have hb0 : Below w.heap.size w (w.alloc (.cells #[.slice A0 n0 c0, .slice Am nm cm, .slice A3 n3 c3] 34)) := (Below.refl _ _).alloc (Nat.le_refl _) _
  have hbw : Below w.heap.size w ((w.alloc (.cells #[.slice A0 n0 c0, .slice Am nm cm, .slice A3 n3 c3] 34)).alloc (.cells zeros38 38)) := hb0.alloc hb0.size _
  have hres0 : Blk ((w.alloc (.cells #[.slice A0 n0 c0, .slice Am nm cm, .slice A3 n3 c3] 34)).alloc (.cells zeros38 38)) (w.heap.size + 1) zeros38 38 := by have := Blk.new (w.alloc (.cells #[.slice A0 n0 c0, .slice Am nm cm, .slice A3 n3 c3] 34)) zeros38 38; simpa using this
  have hbox0 : Blk ((w.alloc (.cells #[.slice A0 n0 c0, .slice Am nm cm, .slice A3 n3 c3] 34)).alloc (.cells zeros38 38)) w.heap.size #[.slice A0 n0 c0, .slice Am nm cm, .slice A3 n3 c3] 34 := (Blk.new w _ 34).alloc _
  have hsz0 : w.heap.size + 2 ≤ ((w.alloc (.cells #[.slice A0 n0 c0, .slice Am nm cm, .slice A3 n3 c3] 34)).alloc (.cells zeros38 38)).heap.size := by simp
  go_enter Try.func10, Try.ntmps10
  go_wp2_with fail
  change Code.wp _ _ _ _ ((w.alloc (.cells #[.slice A0 n0 c0, .slice Am nm cm, .slice A3 n3 c3] 34)).alloc (.cells zeros38 38))
  generalize ((w.alloc (.cells #[.slice A0 n0 c0, .slice Am nm cm, .slice A3 n3 c3] 34)).alloc (.cells zeros38 38)) = wr at *
  clear hb0
  refine wp_region_walk (fun w' => Below wr.heap.size wr w') [[], [(14, 0)], [(15, 1)], [], [(17, 3)], [], [(19, 5)], [(20, 6)], [(16, 2), (18, 4), (21, 7)], []]
    [(14, 0), (15, 1), (16, 2), (17, 3), (18, 4), (19, 5), (20, 6), (21, 7), (22, 8), (8, 9)] (by kernel_rfl) (by kernel_rfl) (by kernel_rfl) (Below.refl _ _).drew ?_
  apply Flow.det_step
  · go_light
    intro w1 hC1
    simp only [Flow.fill, Flow.after, Flow.at_, List.nil_append, List.cons_append, List.getD_cons_zero, List.getD_cons_succ, det, forall_eq, List.setIfInBounds_toArray, List.set_cons_zero, List.set_cons_succ, List.drop, List.length]
    have hb3 := hC1
    have hs3 := hb3.size; have hbox := hbox0.fr (Fr.of_grow hb3) (fun h => h); have hc3x := hbox.cell; have hbw3 := hbw.trans (hb3.mono hbw.size)
    go_wp2
    exact Flow.post_det hb3 (Grow.refl _) rfl rfl
  apply Flow.det_step
  · go_light
    intro w1 hC1
    simp only [Flow.fill, Flow.after, Flow.at_, List.nil_append, List.cons_append, List.getD_cons_zero, List.getD_cons_succ, det, forall_eq, List.setIfInBounds_toArray, List.set_cons_zero, List.set_cons_succ, List.drop, List.length]
    have hb3 := hC1
    have hs3 := hb3.size; have hbox := hbox0.fr (Fr.of_grow hb3) (fun h => h); have hc3x := hbox.cell; have hbw3 := hbw.trans (hb3.mono hbw.size)
    go_wp2
    exact Flow.post_det hb3 (Grow.refl _) rfl rfl
  refine Flow.st_step (rowSt w.heap.size 22 1 n0 (ws.map (Value.int .u32))) ?_ ?_
  · go_light
    intro w1 hC1
    simp only [Flow.fill, Flow.after, Flow.at_, List.nil_append, List.cons_append, List.getD_cons_zero, List.getD_cons_succ, det, forall_eq, List.setIfInBounds_toArray, List.set_cons_zero, List.set_cons_succ, List.drop, List.length]
    have hb3 := hC1
    have hs3 := hb3.size; have hbox := hbox0.fr (Fr.of_grow hb3) (fun h => h); have hc3x := hbox.cell; have hbw3 := hbw.trans (hb3.mono hbw.size)
    go_wp2_with (at_builtin; refine wpList_append_row _ rfl (.const (.slice none 0 0)) (.tmp 15) 30 rfl w.heap.size 22 iw (.int .u32 0) 1 4 Try.underlying30 hiw hzw0 hzw1 hzw2 rfl (by decide) (.slice none 0 0) 0 [] rfl (Row.nil _ _ _ _) B A0 n0 c0 (ws.map (Value.int .u32)) rfl (Reads.below' hw hbw3 hB) (one_i ws) (by unfold maxLen; omega) (by omega) (by omega) ?_)
    intro A' c' w5 hr5 hg5 _
    have hg6 := Grow.of_none hg5
    exact Flow.post_st (hb3.trans (hg6.mono hs3)) hg6 rfl rfl ⟨A', c', by simp, by simpa using hr5⟩
  apply Flow.det_step
  · go_light
    intro w1 hC1
    simp only [Flow.fill, Flow.after, Flow.at_, List.nil_append, List.cons_append, List.getD_cons_zero, List.getD_cons_succ, det, forall_eq, List.setIfInBounds_toArray, List.set_cons_zero, List.set_cons_succ, List.drop, List.length]
    have hb3 := hC1
    have hs3 := hb3.size; have hbox := hbox0.fr (Fr.of_grow hb3) (fun h => h); have hc3x := hbox.cell; have hbw3 := hbw.trans (hb3.mono hbw.size)
    go_wp2
    exact Flow.post_det hb3 (Grow.refl _) rfl rfl
  refine Flow.st_step (rowSt w.heap.size 5 1 n1 (bs.map (Value.int .u8))) ?_ ?_
  · go_light
    intro w1 hC1
    simp only [Flow.fill, Flow.after, Flow.at_, List.nil_append, List.cons_append, List.getD_cons_zero, List.getD_cons_succ, det, forall_eq, List.setIfInBounds_toArray, List.set_cons_zero, List.set_cons_succ, List.drop, List.length]
    have hb3 := hC1
    have hs3 := hb3.size; have hbox := hbox0.fr (Fr.of_grow hb3) (fun h => h); have hc3x := hbox.cell; have hbw3 := hbw.trans (hb3.mono hbw.size)
    go_wp2_with (go_at_call 26; refine (cloneB_any A1 n1 c1 bs _ B (hb.below' hbw3 hB) (by omega) l1).mono ?_; rintro e w5 ⟨v5, rfl, ho5, hb5⟩)
    exact Flow.post_st (hb3.trans (hb5.mono hs3)) hb5 rfl rfl (ho5.base (by omega))
  apply Flow.det_step
  · go_light
    intro w1 hC1
    simp only [Flow.fill, Flow.after, Flow.at_, List.nil_append, List.cons_append, List.getD_cons_zero, List.getD_cons_succ, det, forall_eq, List.setIfInBounds_toArray, List.set_cons_zero, List.set_cons_succ, List.drop, List.length]
    have hb3 := hC1
    have hs3 := hb3.size; have hbox := hbox0.fr (Fr.of_grow hb3) (fun h => h); have hc3x := hbox.cell; have hbw3 := hbw.trans (hb3.mono hbw.size)
    go_wp2
    exact Flow.post_det hb3 (Grow.refl _) rfl rfl
  apply Flow.det_step
  · go_light
    intro w1 hC1
    simp only [Flow.fill, Flow.after, Flow.at_, List.nil_append, List.cons_append, List.getD_cons_zero, List.getD_cons_succ, det, forall_eq, List.setIfInBounds_toArray, List.set_cons_zero, List.set_cons_succ, List.drop, List.length]
    have hb3 := hC1
    have hs3 := hb3.size; have hbox := hbox0.fr (Fr.of_grow hb3) (fun h => h); have hc3x := hbox.cell; have hbw3 := hbw.trans (hb3.mono hbw.size)
    go_wp2
    exact Flow.post_det hb3 (Grow.refl _) rfl rfl
  refine Flow.st_step (rowSt w.heap.size 79 3 n3 (ds.flatMap Nd.cells)) ?_ ?_
  · go_light
    intro w1 hC1
    simp only [Flow.fill, Flow.after, Flow.at_, List.nil_append, List.cons_append, List.getD_cons_zero, List.getD_cons_succ, det, forall_eq, List.setIfInBounds_toArray, List.set_cons_zero, List.set_cons_succ, List.drop, List.length]
    have hb3 := hC1
    have hs3 := hb3.size; have hbox := hbox0.fr (Fr.of_grow hb3) (fun h => h); have hc3x := hbox.cell; have hbw3 := hbw.trans (hb3.mono hbw.size)
    go_wp2_with (at_builtin; refine wpList_append_row _ rfl (.const (.slice none 0 0)) (.tmp 20) 32 rfl w.heap.size 79 iD (.agg #[.int .i64 0, .string ByteArray.empty, .int .i64 0]) 3 32 Try.underlying32 hiD hzD0 hzD1 hzD2 rfl (by decide) (.slice none 0 0) 0 [] rfl (Row.nil _ _ _ _) B A3 n3 c3 (ds.flatMap Nd.cells) rfl (Reads.below' hd.1.1 hbw3 hB) (one_nd ds) (by unfold maxLen; omega) (by omega) (by omega) ?_)
    intro A' c' w5 hr5 hg5 _
    have hg6 := Grow.of_none hg5
    exact Flow.post_st (hb3.trans (hg6.mono hs3)) hg6 rfl rfl ⟨A', c', by simp, by simpa using hr5⟩
  refine Flow.st_step (aggSt w.heap.size n0 n1 n3 ws bs ds) ?_ ?_
  · go_light
    intro w1 hC1
    simp only [Flow.fill, Flow.after, Flow.at_, List.nil_append, List.cons_append, List.getD_cons_zero, List.getD_cons_succ, det, forall_eq, List.setIfInBounds_toArray, List.set_cons_zero, List.set_cons_succ, List.drop, List.length]
    rintro _ ⟨A5, c5, rfl, hr5⟩ _ ⟨A6, c6, rfl, hr6⟩ _ ⟨A7, c7, rfl, hr7⟩
    have hb3 := hC1
    have hs3 := hb3.size; have hbox := hbox0.fr (Fr.of_grow hb3) (fun h => h); have hc3x := hbox.cell; have hbw3 := hbw.trans (hb3.mono hbw.size)
    go_wp2
    exact Flow.post_st hb3 (Grow.refl _) rfl rfl ⟨_, _, _, rfl, ⟨A5, c5, rfl, hr5⟩, ⟨A6, c6, rfl, hr6⟩, ⟨A7, c7, rfl, hr7⟩⟩
  refine Flow.st_step (blkSt (w.heap.size + 2)) ?_ ?_
  · go_light
    intro w1 hC1
    simp only [Flow.fill, Flow.after, Flow.at_, List.nil_append, List.cons_append, List.getD_cons_zero, List.getD_cons_succ, det, forall_eq, List.setIfInBounds_toArray, List.set_cons_zero, List.set_cons_succ, List.drop, List.length]
    have hb3 := hC1
    have hs3 := hb3.size; have hbox := hbox0.fr (Fr.of_grow hb3) (fun h => h); have hc3x := hbox.cell; have hbw3 := hbw.trans (hb3.mono hbw.size)
    go_wp2
    exact Flow.post_st (hb3.alloc hs3 _) (Grow.alloc _ _) rfl rfl ⟨_, rfl, by omega, Blk.new _ _ _⟩
  intro w1 hC1
  simp only [Flow.fill, Flow.after, Flow.at_, List.nil_append, List.cons_append, List.getD_cons_zero, List.getD_cons_succ, det, forall_eq, List.setIfInBounds_toArray, List.set_cons_zero, List.set_cons_succ, List.drop, List.length]
  rintro _ - _ - _ - _ ⟨_, _, _, rfl, ⟨X0, d0, rfl, hr0⟩, ⟨X1, d1, rfl, hr1⟩, ⟨X3, d3, rfl, hr3⟩⟩ _ ⟨g, rfl, hgl, hgb⟩
  have hb3 := hC1
  have hs3 := hb3.size
  have hbox := hbox0.fr (Fr.of_grow hb3) (fun h => h)
  have hbw3 := hbw.trans (hb3.mono hbw.size)
  have hres := hres0.fr (Fr.of_grow hb3) (fun h => h)
  have hF := FromSt.start hgb hgl hbw3 hres ⟨X0, d0, rfl, hr0⟩ ⟨X1, d1, rfl, hr1⟩ ⟨X3, d3, rfl, hr3⟩
  have hbox2 : Blk ((((w1.setCell ⟨g, 0, none⟩ (.slice X0 n0 d0)).setCell ⟨g, 1, none⟩ (.slice X1 n1 d1)).setCell ⟨g, 2, none⟩ (.slice none 0 0)).setCell ⟨g, 3, none⟩ (.slice X3 n3 d3)) w.heap.size #[.slice A0 n0 c0, .slice Am nm cm, .slice A3 n3 c3] 34 :=
    (((hbox.set_other (by show g ≠ _; omega) _).set_other (by show g ≠ _; omega) _).set_other (by show g ≠ _; omega) _).set_other (by show g ≠ _; omega) _
  have hgc := hgb.cell
  unfold zeros38 at hgc
  have hgf := hgb.free
  have hglt := hgb.lt
  clear hr0 hr1 hr3 hbox hb3 hC1 hres hbox0 hres0
  have hcb := hbox2.cell
  go_wp2_with fail
  clear hcb hbox2 hgc hgf hgb hglt hgl hbw hbw3 hs3 hsz0
  go_loopw [26] (fun i wr => ∃ (k : Nat) (vN : Value), k ≤ nm ∧ i = .int .i64 k ∧ Hid (FromSt w wr g n0 n1 n3 (.slice X0 n0 d0) (.slice X1 n1 d1) vN (.slice X3 n3 d3) ws bs (((ms.take k).map (nmOf 1))) ds)) (fun i _ => nm - (intOf i).toNat)
  case atStart => exact ⟨0, _, by omega, rfl, Lib.hid hF⟩
  case round =>
    clear hF
    obtain ⟨k, vN, hkn, rfl, hF⟩ := hrel
    obtain ⟨AN, cN, hvN, hrN⟩ := hF.out.oN
    have hlenN : (((ms.take k).map (nmOf 1))).length = k := by simp [HLM.out]; omega
    rw [hlenN] at hrN hvN
    subst hvN
    have HLEN := Lib.hid hlenN
    clear hlenN
    have hshape := hrN.shape
    obtain ⟨ax, cx, ex, hcx1, hcx2⟩ := hshape
    injection ex with ex1 ex2 ex3
    subst ex1
    subst ex3
    clear ex2
    have hcg := hF.out.blk.cell
    have hlg := hF.out.blk.lt
    have hbw := hF.out.below
    have hsz := hbw.size
    by_cases hlt : k < nm
    · obtain ⟨b, o, rfl, hbB, hfine, z0, z1⟩ := (hm.below' hbw hB).at_ hlt
      have HS : Hid (((ms.take (k + 1)).map (nmOf 1)) = (((ms.take k).map (nmOf 1))) ++ [nmOf 1 (ms.getD k .zero)]) := Lib.hid (by
        rw [List.take_succ_eq_append_getElem (by rw [HLM.out]; exact hlt), List.map_append]
        simp [List.getD, List.getElem?_eq_getElem (by rw [HLM.out]; exact hlt : k < ms.length)])
      generalize ms.getD k .zero = m at *
      obtain ⟨s, ad⟩ := m
      dsimp only at z0 z1
      generalize hPP : (((ms.take k).map (nmOf 1))) = PP at *
      have HPP := Lib.hid hPP
      clear hPP
      have hrd : Reads ((wr.alloc (.cells #[.string s, .int .i64 ad] 67)).alloc (.cells #[.string s, .int .i64 1, .int .i64 ad, .bool false] 69)) (wr.heap.size + 1 + 1) 4 (some ⟨wr.heap.size + 1, 0, none⟩) 1 [.string s, .int .i64 1, .int .i64 ad, .bool false] := by
        have := ob_reads (wr.alloc (.cells #[.string s, .int .i64 ad] 67)) 69 4 1 [.string s, .int .i64 1, .int .i64 ad, .bool false] rfl
        simpa using this
      have hlenN : PP.length = k := HLEN.out
      have HLEN2 := Lib.hid hlenN
      clear hlenN HLEN
      have hF2 := Lib.hid ((hF.out.alloc (.cells #[.string s, .int .i64 ad] 67)).alloc (.cells #[.string s, .int .i64 1, .int .i64 ad, .bool false] 69))
      have hmx : k + 1 ≤ maxLen := by unfold maxLen; omega
      have hby : (k + 1) * 40 ≤ 140737488355328 := by omega
      go_wp2_with (at_builtin; refine wpList_append_row _ rfl (.tmp 31) (.tmp 37) 36 rfl w.heap.size 69 iN (.agg #[.string ByteArray.empty, .int .i64 0, .int .i64 0, .bool false]) 4 40 Try.underlying36 hiN hzN0 hzN1 hzN2 rfl (by decide) (.slice AN (k) cN) (k) (PP.flatMap Nm.cells) rfl ((hrN.alloc _).alloc _) (wr.heap.size + 1 + 1) (some ⟨wr.heap.size + 1, 0, none⟩) 1 1 [.string s, .int .i64 1, .int .i64 ad, .bool false] rfl hrd (one_nm _ _ _ _) hmx hby hF2.out.below.size ?_)
      intro A5 c5 w5 hr5 hg5 _
      have hF3 := Lib.hid (FromSt.append (x := nmOf 1 ⟨s, ad⟩) hF2.out (by rw [HLEN2.out]; exact hr5) hg5)
      have hblk5 : Blk w5 g _ 38 := hF2.out.blk.fr (Fr.of_grown hg5) (fun e => row_blk hF2.out.oN.row hF2.out.blk (by decide) e)
      have hc5 := hblk5.cell
      have hf5 := hblk5.free
      have hl5 := hblk5.lt
      clear hr5 hg5 hF2 hF hmx hby hrN hrd hcg hlg hblk5
      go_wp2
      go_roundw
      case rel => exact ⟨k + 1, _, by omega, by go_num, by rw [HS.out]; rw [HLEN2.out] at hF3; exact hF3⟩
      case measure => simp [intOf]; omega
    · obtain rfl : nm = k := by omega
      have hF1 := hF.out
      rw [show ms.take nm = ms from List.take_of_length_le (by rw [HLM.out]; exact Nat.le_refl _)] at hF1
      clear hF hlt hrN HLEN
      go_wp2
      clear hcg hlg
      obtain ⟨wo, hwo⟩ : ∃ wo : World, wo = wr := ⟨_, rfl⟩
      subst hwo
      go_loopw [43] (fun i wr => ∃ (k : Nat) (vN : Value), k ≤ nk ∧ i = .int .i64 k ∧ Hid (FromSt w wr g n0 n1 n3 (.slice X0 n0 d0) (.slice X1 n1 d1) vN (.slice X3 n3 d3) ws bs (ms.map (nmOf 1) ++ (ks.take k).map (nmOf 2)) ds)) (fun i _ => nk - (intOf i).toNat)
      case atStart => exact ⟨0, _, by omega, rfl, Lib.hid (by simpa using hF1)⟩
      case round =>
        clear hF1
        obtain ⟨k, vN, hkn, rfl, hF⟩ := hrel
        obtain ⟨AN, cN, hvN, hrN⟩ := hF.out.oN
        have hlenN : (ms.map (nmOf 1) ++ (ks.take k).map (nmOf 2)).length = nm + k := by simp [HLM.out, HLK.out]; omega
        rw [hlenN] at hrN hvN
        subst hvN
        have HLEN := Lib.hid hlenN
        clear hlenN
        have hshape := hrN.shape
        obtain ⟨ax, cx, ex, hcx1, hcx2⟩ := hshape
        injection ex with ex1 ex2 ex3
        subst ex1
        subst ex3
        clear ex2
        have hcg := hF.out.blk.cell
        have hlg := hF.out.blk.lt
        have hbw := hF.out.below
        have hsz := hbw.size
        by_cases hlt : k < nk
        · obtain ⟨b, o, rfl, hbB, hfine, z0, z1⟩ := (hk.below' hbw hB).at_ hlt
          have HS : Hid ((ms.map (nmOf 1) ++ (ks.take (k + 1)).map (nmOf 2)) = (ms.map (nmOf 1) ++ (ks.take k).map (nmOf 2)) ++ [nmOf 2 (ks.getD k .zero)]) := Lib.hid (by
            rw [List.take_succ_eq_append_getElem (by rw [HLK.out]; exact hlt), List.map_append, ← List.append_assoc]
            simp [List.getD, List.getElem?_eq_getElem (by rw [HLK.out]; exact hlt : k < ks.length)])
          generalize ks.getD k .zero = m at *
          obtain ⟨s, ad⟩ := m
          dsimp only at z0 z1
          generalize hPP : (ms.map (nmOf 1) ++ (ks.take k).map (nmOf 2)) = PP at *
          have HPP := Lib.hid hPP
          clear hPP
          have hrd : Reads ((wr.alloc (.cells #[.string s, .int .i64 ad] 67)).alloc (.cells #[.string s, .int .i64 2, .int .i64 ad, .bool false] 69)) (wr.heap.size + 1 + 1) 4 (some ⟨wr.heap.size + 1, 0, none⟩) 1 [.string s, .int .i64 2, .int .i64 ad, .bool false] := by
            have := ob_reads (wr.alloc (.cells #[.string s, .int .i64 ad] 67)) 69 4 1 [.string s, .int .i64 2, .int .i64 ad, .bool false] rfl
            simpa using this
          have hlenN : PP.length = nm + k := HLEN.out
          have HLEN2 := Lib.hid hlenN
          clear hlenN HLEN
          have hF2 := Lib.hid ((hF.out.alloc (.cells #[.string s, .int .i64 ad] 67)).alloc (.cells #[.string s, .int .i64 2, .int .i64 ad, .bool false] 69))
          have hmx : nm + k + 1 ≤ maxLen := by unfold maxLen; omega
          have hby : (nm + k + 1) * 40 ≤ 140737488355328 := by omega
          go_wp2_with (at_builtin; refine wpList_append_row _ rfl (.tmp 48) (.tmp 54) 36 rfl w.heap.size 69 iN (.agg #[.string ByteArray.empty, .int .i64 0, .int .i64 0, .bool false]) 4 40 Try.underlying36 hiN hzN0 hzN1 hzN2 rfl (by decide) (.slice AN (nm + k) cN) (nm + k) (PP.flatMap Nm.cells) rfl ((hrN.alloc _).alloc _) (wr.heap.size + 1 + 1) (some ⟨wr.heap.size + 1, 0, none⟩) 1 1 [.string s, .int .i64 2, .int .i64 ad, .bool false] rfl hrd (one_nm _ _ _ _) hmx hby hF2.out.below.size ?_)
          intro A5 c5 w5 hr5 hg5 _
          have hF3 := Lib.hid (FromSt.append (x := nmOf 2 ⟨s, ad⟩) hF2.out (by rw [HLEN2.out]; exact hr5) hg5)
          have hblk5 : Blk w5 g _ 38 := hF2.out.blk.fr (Fr.of_grown hg5) (fun e => row_blk hF2.out.oN.row hF2.out.blk (by decide) e)
          have hc5 := hblk5.cell
          have hf5 := hblk5.free
          have hl5 := hblk5.lt
          clear hr5 hg5 hF2 hF hmx hby hrN hrd hcg hlg hblk5
          go_wp2
          go_roundw
          case rel => exact ⟨k + 1, _, by omega, by go_num, by rw [HS.out]; rw [HLEN2.out] at hF3; exact hF3⟩
          case measure => simp [intOf]; omega
        · obtain rfl : nk = k := by omega
          have hF1 := hF.out
          rw [show ks.take nk = ks from List.take_of_length_le (by rw [HLK.out]; exact Nat.le_refl _)] at hF1 hrN HLEN
          clear hF hlt
          have hRead : Ob.Read ⟨X0, n0, d0, X1, n1, d1, AN, nm + nk, cN, X3, n3, d3, made ms ks, ds⟩ wr wr.heap.size := by
            obtain ⟨X3', d3', e3, h3⟩ := hF1.o3
            injection e3 with e31 e32 e33
            subst e31
            subst e33
            refine ⟨⟨⟨hrN.reads, HLEN.out⟩, fun x hx => ?_⟩, ⟨⟨h3.reads, hd.len⟩, hd.2⟩, by dsimp only; omega, by dsimp only; omega, by dsimp only; omega, by dsimp only; omega⟩
            rcases List.mem_append.1 hx with hx | hx
            · obtain ⟨y, hy, rfl⟩ := List.mem_map.1 hx
              exact ⟨(hm.2 y hy).1, by show (Lit.int .i64 1).wf = true; decide, (hm.2 y hy).2⟩
            · obtain ⟨y, hy, rfl⟩ := List.mem_map.1 hx
              exact ⟨(hk.2 y hy).1, by show (Lit.int .i64 2).wf = true; decide, (hk.2 y hy).2⟩
          have HE : Hid (objErr ⟨X0, n0, d0, X1, n1, d1, AN, nm + nk, cN, X3, n3, d3, made ms ks, ds⟩ = errOf n0 n1 n3 (made ms ks) ds) := Lib.hid (by
            unfold errOf objErr
            have : (made ms ks).length = nm + nk := HLEN.out
            rw [this])
          have HF1 := Lib.hid hF1
          have HRE := Lib.hid hRead
          have HRN := Lib.hid hrN
          clear hF1 hRead hrN
          generalize errOf n0 n1 n3 (made ms ks) ds = E at *
          have hmade : made ms ks = ms.map (nmOf 1) ++ ks.map (nmOf 2) := rfl
          have hfine : ∀ x ∈ made ms ks, x.fine := HRE.out.ns.2
          have HFI := Lib.hid hfine
          rw [← hmade] at HF1 HLEN
          clear hfine hmade
          by_cases hE : E = 0
          · subst hE
            go_wp2_with (go_at_call 15; refine (check_any ⟨X0, n0, d0, X1, n1, d1, AN, nm + nk, cN, X3, n3, d3, made ms ks, ds⟩ _ wr.heap.size HRE.out (Nat.le_refl _)).mono ?_; rintro e w5 ⟨rfl, hb5⟩; have hF5 := Lib.hid (HF1.out.grow hb5); have hcg5 := hF5.out.blk.cell; have hcr5 := hF5.out.res.cell; unfold zeros38 at hcr5; have hfr5 := hF5.out.res.free; have hlr5 := hF5.out.res.lt; have hlg5 := hF5.out.blk.lt; rw [HE.out])
            have hres := FromSt.full hF5.out HLEN.out hb.2 HFI.out hd.len hd.2 (by omega) (by omega) (by omega) (by omega) (w4 := set4b w5 (w.heap.size + 1) (.slice X0 n0 d0) (.slice X1 n1 d1) (.slice AN (nm + nk) cN) (.slice X3 n3 d3)) (fr4b _ _ _ _ _ _)
            exact bodyPost_ret (v := .tuple #[.agg #[.slice X0 n0 d0, .slice X1 n1 d1, .slice AN (nm + nk) cN, .slice X3 n3 d3], .int .i64 0]) (by simp [results, Try.results10, go_sem, hcr5, hlr5, zeros38]) rfl ⟨⟨X0, n0, d0, X1, n1, d1, AN, nm + nk, cN, X3, n3, d3, made ms ks, ds⟩, rfl, hres.1, rfl, rfl, hres.2⟩
          · have hE' : (E != 0) = true := by simpa using hE
            have HNE := Lib.hid hE
            clear hE
            go_wp2_with (go_at_call 15; refine (check_any ⟨X0, n0, d0, X1, n1, d1, AN, nm + nk, cN, X3, n3, d3, made ms ks, ds⟩ _ wr.heap.size HRE.out (Nat.le_refl _)).mono ?_; rintro e w5 ⟨rfl, hb5⟩; have hF5 := Lib.hid (HF1.out.grow hb5); have hcg5 := hF5.out.blk.cell; have hcr5 := hF5.out.res.cell; unfold zeros38 at hcr5; have hfr5 := hF5.out.res.free; have hlr5 := hF5.out.res.lt; have hlg5 := hF5.out.blk.lt; rw [HE.out])
            exact bodyPost_ret (v := .tuple #[.agg #[.slice none 0 0, .slice none 0 0, .slice none 0 0, .slice none 0 0], .int .i64 E]) (by simp [results, Try.results10, go_sem, hcr5, hlr5, zeros38]) rfl (MadePost.bad HNE.out (HF5b hF5.out))
end Go.Proofs.Ytgmpcdonmlhohaa
