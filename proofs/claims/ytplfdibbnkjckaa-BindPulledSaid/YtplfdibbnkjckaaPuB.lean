/- Parts of the call's own; contract of bind.clone. -/
import Derived.Test.YtplfdibbnkjckaaPuA
import Derived.Test.YtplfdibbnkjckaaFlow
import Derived.Test.YtplfdibbnkjckaaOwnC
import Derived.Deep.Light
namespace Go.Proofs.Ytplfdibbnkjckaa
open Go.RowKit
set_option maxHeartbeats 400000
set_option linter.unusedVariables false
set_option linter.unusedSimpArgs false
/-- A part whose four slices are the call's own. -/
structure FoOwn (w : World) (B : Nat) (f : Fo) : Prop where
  o0 : Row w B 56 1 (.slice f.o.A0 f.o.n0 f.o.c0) f.o.n0 (f.ws.map (Value.int .u32))
  o1 : Row w B 5 1 (.slice f.o.A1 f.o.n1 f.o.c1) f.o.n1 (f.bs.map (Value.int .u8))
  o2 : Row w B 39 4 (.slice f.o.A2 f.o.n2 f.o.c2) f.o.n2 (f.o.ns.flatMap Nm.cells)
  o3 : Row w B 41 3 (.slice f.o.A3 f.o.n3 f.o.c3) f.o.n3 (f.o.ds.flatMap Nd.cells)
  fn : ∀ x ∈ f.o.ns, x.fine
  fd : ∀ x ∈ f.o.ds, x.fine
  byt : Byt f.bs
  l2 : f.o.ns.length = f.o.n2
  l3 : f.o.ds.length = f.o.n3
theorem FoOwn.fr {w w' : World} {B : Nat} {f : Fo} {S : Nat → Prop} (h : FoOwn w B f) (hf : Fr S w w')
    (h0 : ∀ k, (Value.slice f.o.A0 f.o.n0 f.o.c0).ownBlock = some k → ¬ S k) (h1 : ∀ k, (Value.slice f.o.A1 f.o.n1 f.o.c1).ownBlock = some k → ¬ S k)
    (h2 : ∀ k, (Value.slice f.o.A2 f.o.n2 f.o.c2).ownBlock = some k → ¬ S k) (h3 : ∀ k, (Value.slice f.o.A3 f.o.n3 f.o.c3).ownBlock = some k → ¬ S k) : FoOwn w' B f :=
  ⟨h.o0.fr hf h0, h.o1.fr hf h1, h.o2.fr hf h2, h.o3.fr hf h3, h.fn, h.fd, h.byt, h.l2, h.l3⟩
theorem FoOwn.grow {w w' : World} {B : Nat} {f : Fo} (h : FoOwn w B f) (hb : Below w.heap.size w w') : FoOwn w' B f :=
  h.fr (Fr.of_grow hb) (fun _ _ h => h) (fun _ _ h => h) (fun _ _ h => h) (fun _ _ h => h)
theorem pu_row_row {w : World} {base base' e e' size size' n n' : Nat} {v v' : Value} {xs xs' : List Value} (h : Row w base e size v n xs) (h' : Row w base' e' size' v' n' xs') (ht : e ≠ e') : ∀ k, v.ownBlock = some k → v'.ownBlock ≠ some k := by
  intro k hk hk'
  rcases h.2 with ⟨rfl, _⟩ | ⟨g, o, cap, cur, rfl, _, hg, _⟩
  · simp [Value.ownBlock] at hk
  · rcases h'.2 with ⟨rfl, _⟩ | ⟨g', o', cap', cur', rfl, _, hg', _⟩
    · simp [Value.ownBlock] at hk'
    · simp [Value.ownBlock] at hk hk'
      subst hk; subst hk'
      rw [hg] at hg'
      injection hg' with hg'
      injection hg' with _ hg'
      exact ht hg'
theorem FoOwn.app {w w' : World} {B B' n : Nat} {f : Fo} {v : Value} {xs : List Value} (h : FoOwn w B f) (hr : Row w B' 37 4 v n xs) (hf : Fr (fun k => v.ownBlock = some k) w w') : FoOwn w' B f :=
  h.fr hf (fun k hk e => pu_row_row h.o0 hr (by decide) k hk e) (fun k hk e => pu_row_row h.o1 hr (by decide) k hk e) (fun k hk e => pu_row_row h.o2 hr (by decide) k hk e) (fun k hk e => pu_row_row h.o3 hr (by decide) k hk e)
theorem FoOwn.full {w : World} {B : Nat} {f : Fo} (h : FoOwn w B f) : f.Full w w.heap.size := by
  obtain ⟨_, c0, e0, a0, b0⟩ := h.o0.shape
  obtain ⟨_, c1, e1, a1, b1⟩ := h.o1.shape
  obtain ⟨_, c2, e2, a2, b2⟩ := h.o2.shape
  obtain ⟨_, c3, e3, a3, b3⟩ := h.o3.shape
  injection e0 with _ _ e0; injection e1 with _ _ e1; injection e2 with _ _ e2; injection e3 with _ _ e3
  subst e0; subst e1; subst e2; subst e3
  unfold maxLen at b0 b1 b2 b3
  exact ⟨⟨⟨⟨⟨h.o2.reads, h.l2⟩, h.fn⟩, ⟨⟨h.o3.reads, h.l3⟩, h.fd⟩, by omega, by omega, by omega, by omega⟩, a2, b2⟩, h.o0.reads, ⟨h.o1.reads, h.byt⟩⟩
theorem infoF0 : (Try.prog.info? 56).map (fun i => (i.zero, i.size, i.bytes)) = some (some (.int .u32 0), 1, 4) := by kernel_rfl
theorem infoF1 : (Try.prog.info? 5).map (fun i => (i.zero, i.size, i.bytes)) = some (some (.int .u8 0), 1, 1) := by kernel_rfl
theorem infoF2 : (Try.prog.info? 39).map (fun i => (i.zero, i.size, i.bytes)) = some (some (.agg #[.string ByteArray.empty, .int .i64 0, .int .i64 0, .bool false]), 4, 40) := by kernel_rfl
theorem infoF3 : (Try.prog.info? 41).map (fun i => (i.zero, i.size, i.bytes)) = some (some (.agg #[.int .i64 0, .string ByteArray.empty, .int .i64 0]), 3, 32) := by kernel_rfl
theorem infoF : (Try.prog.info? 37).map (fun i => (i.zero, i.size, i.bytes)) = some (some (.agg #[.slice none 0 0, .slice none 0 0, .slice none 0 0, .slice none 0 0]), 4, 96) := by kernel_rfl
theorem one_k {k : IntKind} (xs : List Int) : ∀ u ∈ xs.map (Value.int k), u.oneCell' = true := by
  intro u hu
  obtain ⟨x, _, rfl⟩ := List.mem_map.1 hu
  rfl
theorem one_nd (ds : List Nd) : ∀ u ∈ ds.flatMap Nd.cells, u.oneCell' = true := by
  intro u hu
  obtain ⟨d, _, h⟩ := List.mem_flatMap.1 hu
  simp [Nd.cells] at h
  rcases h with rfl | rfl | rfl <;> rfl
theorem one_nm (ns : List Nm) : ∀ u ∈ ns.flatMap Nm.cells, u.oneCell' = true := by
  intro u hu
  obtain ⟨d, _, h⟩ := List.mem_flatMap.1 hu
  simp [Nm.cells] at h
  rcases h with rfl | rfl | rfl | rfl <;> rfl
theorem one_fo (f : Fo) : ∀ u ∈ f.cells, u.oneCell' = true := by
  intro u hu
  simp [Fo.cells, Ob.cells] at hu
  rcases hu with rfl | rfl | rfl | rfl <;> rfl
def OwnS (w : World) (base : Nat) (e : TypeId) (size n : Nat) (v : Value) (xs : List Value) : Prop := ∃ A c, v = .slice A n c ∧ Row w base e size (.slice A n c) n xs
theorem OwnS.grow {w w' : World} {base e size n : Nat} {v : Value} {xs : List Value} (h : OwnS w base e size n v xs) (hb : Below w.heap.size w w') : OwnS w' base e size n v xs := by
  obtain ⟨A, c, rfl, h⟩ := h; exact ⟨A, c, rfl, h.grow hb⟩
def rowSt (base e size n : Nat) (xs : List Value) : St := ⟨fun v W => OwnS W base e size n v xs, fun v W W' h hg => h.grow hg⟩
def foSt (base : Nat) (X : Fo) : St := ⟨fun v W => ∃ f : Fo, v = .agg f.o.vals ∧ FoOwn W base f ∧ f.says = X.says, fun v W W' h hg => by
  obtain ⟨f, h1, h2, h3⟩ := h
  exact ⟨f, h1, h2.grow hg, h3⟩⟩
def boxSt (base : Nat) (X : Fo) : St := ⟨fun v W => ∃ (g : Nat) (f : Fo), v = .slice (some ⟨g, 0, none⟩) 1 1 ∧ FoOwn W base f ∧ f.says = X.says ∧ Blk W g f.cells.toArray 37, fun v W W' h hg => by
  obtain ⟨g, f, h1, h2, h3, h4⟩ := h
  exact ⟨g, f, h1, h2.grow hg, h3, h4.fr (Fr.of_grow hg) (fun h => h)⟩⟩
/-- Parts of the call's own, in a row of its own. -/
structure FosOwn (w : World) (B : Nat) (v : Value) (fs : List Fo) : Prop where
  row : Row w B 37 4 v fs.length (fs.flatMap Fo.cells)
  own : ∀ f ∈ fs, FoOwn w B f
theorem FosOwn.grow {w w' : World} {B : Nat} {v : Value} {fs : List Fo} (h : FosOwn w B v fs) (hb : Below w.heap.size w w') : FosOwn w' B v fs := ⟨h.row.grow hb, fun f hf => (h.own f hf).grow hb⟩
theorem FosOwn.rf {w : World} {B n c : Nat} {A : Option Addr} {fs : List Fo} (h : FosOwn w B (.slice A n c) fs) (hn : n = fs.length) : RF w w.heap.size A n fs := by
  have hr := h.row
  rw [← hn] at hr
  exact ⟨⟨hr.reads, hn.symm⟩, fun f hf => (h.own f hf).full⟩
def CloneP (w : World) (n : Nat) (fs : List Fo) (e : Ending) (w' : World) : Prop :=
  ∃ A c fs', e = .returned (.slice A n c) ∧ RF w' w'.heap.size A n fs' ∧ fs'.map Fo.says = fs.map Fo.says ∧ Below w.heap.size w w'
set_option maxHeartbeats 4000000 in
set_option maxRecDepth 100000 in
theorem clone_any (A : Option Addr) (n c : Nat) (fs : List Fo) (w : World) (B : Nat) (h : RF w B A n fs) (hB : B ≤ w.heap.size) (hn : n ≤ 12) (hfit : ∀ o ∈ osOf fs, BFit o ∧ GoodOb o) : Calls Try.prog 13 #[.slice A n c] w (CloneP w n fs) := by
  obtain ⟨iw, hiw, hzw0, hzw1, hzw2⟩ := info_parts infoF0
  obtain ⟨ib, hib, hzb0, hzb1, hzb2⟩ := info_parts infoF1
  obtain ⟨im, him, hzm0, hzm1, hzm2⟩ := info_parts infoF2
  obtain ⟨iD, hiD, hzD0, hzD1, hzD2⟩ := info_parts infoF3
  obtain ⟨iF, hiF, hzF0, hzF1, hzF2⟩ := info_parts infoF
  have HL := Lib.hid h.len
  have HFIT := Lib.hid hfit
  clear hfit
  go_enter Try.func13, Try.ntmps13
  go_wp2_with (refine wpList_make_own _ rfl (.const (.int .i64 0)) (.tmp 7) 22 rfl w.heap.size 37 iF _ 4 Try.underlying22 hiF hzF0 hzF1 .i64 .i64 _ n rfl rfl rfl (by rw [hzF2]; omega) (by simp only [maxLen]; omega) (Nat.le_refl _) ?_; intro w1 hown1 hgr1)
  have hb1 : Below w.heap.size w w1 := (Below.refl _ _).grown hgr1 (Nat.le_refl _) (fun k hk => by cases hk)
  have hfo : FosOwn w1 w.heap.size (.slice (some ⟨w.heap.size, 0, none⟩) 0 n) [] := ⟨Row.of_own hown1, fun f hf => by simp at hf⟩
  clear hown1 hgr1
  go_wp2
  go_loopw [3, 11] (fun v i wr => ∃ (k : Nat) (fs' : List Fo), k ≤ n ∧ i = .int .i64 k ∧ fs'.length = k ∧ FosOwn wr w.heap.size v fs' ∧ fs'.map Fo.says = (fs.take k).map Fo.says ∧ Below w.heap.size w wr) (fun _ i _ => n - (intOf i).toNat)
  case atStart => exact ⟨0, [], by omega, rfl, rfl, hfo, rfl, hb1⟩
  case round =>
    clear hfo hb1
    obtain ⟨_, fs', hk, rfl, rfl, hfo, hsy, hbw⟩ := hrel
    have hsw := hbw.size
    obtain ⟨Ao, co, hvo, hco1, hco2⟩ := hfo.row.shape
    subst hvo
    by_cases hlt : fs'.length < n
    rotate_left
    · obtain rfl : fs'.length = n := by omega
      have hfin := Lib.hid (show CloneP w fs'.length fs (.returned (.slice Ao fs'.length co)) wr from
        ⟨Ao, co, fs', rfl, hfo.rf rfl, by rw [hsy, ← HL.out, List.take_length], hbw⟩)
      clear hfo hsy hbw
      go_wp2
      go_ret
      exact hfin.out
    · obtain ⟨b, o, X, rfl, hb, hx, hfull, z0, z1, z2, z3⟩ := (h.below' hbw hB).at_ hlt
      obtain ⟨hft, hgd⟩ := HFIT.out X.o (by unfold osOf; exact List.mem_map_of_mem (List.mem_of_getElem? hx))
      have hn0 := hft.n0
      have hn1 := hft.n1
      have hn2 := hft.n2
      have hn3 := hgd.n3
      have hsx := Lib.hid (show (fs.take (fs'.length + 1)).map Fo.says = (fs.take fs'.length).map Fo.says ++ [X.says] from take_map_snoc Fo.says hx)
      have HW0 := Lib.hid hfull.rw
      have HB0 := Lib.hid hfull.rb
      have HN0 := Lib.hid hfull.fine.rd.ns
      have HD0 := Lib.hid hfull.fine.rd.ds
      clear hfull hx hft hgd
      obtain ⟨⟨A0, n0, c0, A1, n1, c1, A2, n2, c2, A3, n3, c3, ns, ds⟩, ws, bs⟩ := X
      dsimp only at z0 z1 z2 z3 hn0 hn1 hn2 hn3 HW0 HB0 HN0 HD0
      have hbox0 := Blk.new wr #[.slice A0 n0 c0, .slice A1 n1 c1, .slice A2 n2 c2, .slice A3 n3 c3] 37
      have hx1 : Below wr.heap.size wr (wr.alloc (.cells #[.slice A0 n0 c0, .slice A1 n1 c1, .slice A2 n2 c2, .slice A3 n3 c3] 37)) := (Below.refl _ _).alloc (Nat.le_refl _) _
      obtain ⟨W1, hW1⟩ : ∃ W1, W1 = wr.alloc (.cells #[.slice A0 n0 c0, .slice A1 n1 c1, .slice A2 n2 c2, .slice A3 n3 c3] 37) := ⟨_, rfl⟩
      rw [← hW1] at hbox0 hx1
      have HW1 := Lib.hid hW1
      have hs1 := hx1.size
      have hb1 := hbw.trans (hx1.mono hsw)
      have hfo1 := hfo.grow hx1
      obtain ⟨gb, hgbe⟩ : ∃ gb, gb = wr.heap.size := ⟨_, rfl⟩
      rw [← hgbe] at hbox0 hx1
      have HGB := Lib.hid hgbe
      have hgw : w.heap.size ≤ gb := by omega
      have hgb := hbox0.lt
      have hbq := Lib.hid hx1
      have hgq : gb ≤ W1.heap.size := by omega
      clear hW1 hfo hx1 hgbe
      have hws : w.heap.size ≤ W1.heap.size := hb1.size
      have HW := Lib.hid (HW0.out)
      go_wp2_with fail
      rw [← HW1.out, ← HGB.out]
      clear z0 z1 z2 z3
      refine wp_region_walk (fun w' => Below W1.heap.size W1 w') [[], [], [(16, 1)], [(17, 2)], [], [(19, 4)], [(20, 5)], [], [(22, 7)], [(23, 8)], [], [(25, 10)], [(26, 11)], [(18, 3), (21, 6), (24, 9), (27, 12)], [(28, 13)]]
        [(15, 0), (16, 1), (17, 2), (18, 3), (19, 4), (20, 5), (21, 6), (22, 7), (23, 8), (24, 9), (25, 10), (26, 11), (27, 12), (28, 13), (29, 14)] (by kernel_rfl) (by kernel_rfl) (by kernel_rfl) (Below.refl _ _).drew ?_
      apply Flow.det_step
      · go_light
        intro w1 hC1
        simp only [Flow.fill, Flow.after, Flow.at_, List.nil_append, List.cons_append, List.getD_cons_zero, List.getD_cons_succ, det, forall_eq, List.setIfInBounds_toArray, List.set_cons_zero, List.set_cons_succ, List.drop, List.length]
        have hb3 := hC1
        have hs3 := hb3.size; have hbox := hbox0.fr (Fr.of_grow hb3) (fun h => h); have hc3x := hbox.cell; have hl3x := hbox.lt; have hbw3 := hbq.out.trans (hb3.mono hgq)
        go_wp2
        exact Flow.post_det hb3 (Grow.refl _) rfl rfl
      apply Flow.det_step
      · go_light
        intro w1 hC1
        simp only [Flow.fill, Flow.after, Flow.at_, List.nil_append, List.cons_append, List.getD_cons_zero, List.getD_cons_succ, det, forall_eq, List.setIfInBounds_toArray, List.set_cons_zero, List.set_cons_succ, List.drop, List.length]
        have hb3 := hC1
        have hs3 := hb3.size; have hbox := hbox0.fr (Fr.of_grow hb3) (fun h => h); have hc3x := hbox.cell; have hl3x := hbox.lt; have hbw3 := hbq.out.trans (hb3.mono hgq)
        go_wp2
        exact Flow.post_det hb3 (Grow.refl _) rfl rfl
      apply Flow.det_step
      · go_light
        intro w1 hC1
        simp only [Flow.fill, Flow.after, Flow.at_, List.nil_append, List.cons_append, List.getD_cons_zero, List.getD_cons_succ, det, forall_eq, List.setIfInBounds_toArray, List.set_cons_zero, List.set_cons_succ, List.drop, List.length]
        have hb3 := hC1
        have hs3 := hb3.size; have hbox := hbox0.fr (Fr.of_grow hb3) (fun h => h); have hc3x := hbox.cell; have hl3x := hbox.lt; have hbw3 := hbq.out.trans (hb3.mono hgq)
        go_wp2
        exact Flow.post_det hb3 (Grow.refl _) rfl rfl
      refine Flow.st_step (rowSt w.heap.size 56 1 n0 (ws.map (Value.int .u32))) ?_ ?_
      · go_light
        intro w1 hC1
        simp only [Flow.fill, Flow.after, Flow.at_, List.nil_append, List.cons_append, List.getD_cons_zero, List.getD_cons_succ, det, forall_eq, List.setIfInBounds_toArray, List.set_cons_zero, List.set_cons_succ, List.drop, List.length]
        have hb3 := hC1
        have hs3 := hb3.size; have hbox := hbox0.fr (Fr.of_grow hb3) (fun h => h); have hc3x := hbox.cell; have hl3x := hbox.lt; have hbw3 := hbq.out.trans (hb3.mono hgq)
        go_wp2_with (at_builtin; refine wpList_append_row _ rfl (.const (.slice none 0 0)) (.tmp 17) 32 rfl w.heap.size 56 iw (.int .u32 0) 1 4 Try.underlying32 hiw hzw0 hzw1 hzw2 rfl (by decide) (.slice none 0 0) 0 [] rfl (Row.nil _ _ _ _) B A0 n0 c0 (ws.map (Value.int .u32)) rfl (Reads.below' HW0.out hbw3 (by omega)) (one_k ws) (by unfold maxLen; omega) (by omega) (by omega) ?_)
        intro A' c' w5 hr5 hg5 _
        have hg6 := Grow.of_none hg5
        exact Flow.post_st (hb3.trans (hg6.mono hs3)) hg6 rfl rfl ⟨A', c', by simp, by simpa using hr5⟩
      apply Flow.det_step
      · go_light
        intro w1 hC1
        simp only [Flow.fill, Flow.after, Flow.at_, List.nil_append, List.cons_append, List.getD_cons_zero, List.getD_cons_succ, det, forall_eq, List.setIfInBounds_toArray, List.set_cons_zero, List.set_cons_succ, List.drop, List.length]
        have hb3 := hC1
        have hs3 := hb3.size; have hbox := hbox0.fr (Fr.of_grow hb3) (fun h => h); have hc3x := hbox.cell; have hl3x := hbox.lt; have hbw3 := hbq.out.trans (hb3.mono hgq)
        go_wp2
        exact Flow.post_det hb3 (Grow.refl _) rfl rfl
      apply Flow.det_step
      · go_light
        intro w1 hC1
        simp only [Flow.fill, Flow.after, Flow.at_, List.nil_append, List.cons_append, List.getD_cons_zero, List.getD_cons_succ, det, forall_eq, List.setIfInBounds_toArray, List.set_cons_zero, List.set_cons_succ, List.drop, List.length]
        have hb3 := hC1
        have hs3 := hb3.size; have hbox := hbox0.fr (Fr.of_grow hb3) (fun h => h); have hc3x := hbox.cell; have hl3x := hbox.lt; have hbw3 := hbq.out.trans (hb3.mono hgq)
        go_wp2
        exact Flow.post_det hb3 (Grow.refl _) rfl rfl
      refine Flow.st_step (rowSt w.heap.size 5 1 n1 (bs.map (Value.int .u8))) ?_ ?_
      · go_light
        intro w1 hC1
        simp only [Flow.fill, Flow.after, Flow.at_, List.nil_append, List.cons_append, List.getD_cons_zero, List.getD_cons_succ, det, forall_eq, List.setIfInBounds_toArray, List.set_cons_zero, List.set_cons_succ, List.drop, List.length]
        have hb3 := hC1
        have hs3 := hb3.size; have hbox := hbox0.fr (Fr.of_grow hb3) (fun h => h); have hc3x := hbox.cell; have hl3x := hbox.lt; have hbw3 := hbq.out.trans (hb3.mono hgq)
        go_wp2_with (at_builtin; refine wpList_append_row _ rfl (.const (.slice none 0 0)) (.tmp 20) 33 rfl w.heap.size 5 ib (.int .u8 0) 1 1 Try.underlying33 hib hzb0 hzb1 hzb2 rfl (by decide) (.slice none 0 0) 0 [] rfl (Row.nil _ _ _ _) B A1 n1 c1 (bs.map (Value.int .u8)) rfl (Reads.below' HB0.out.1 hbw3 (by omega)) (one_k bs) (by unfold maxLen; omega) (by omega) (by omega) ?_)
        intro A' c' w5 hr5 hg5 _
        have hg6 := Grow.of_none hg5
        exact Flow.post_st (hb3.trans (hg6.mono hs3)) hg6 rfl rfl ⟨A', c', by simp, by simpa using hr5⟩
      apply Flow.det_step
      · go_light
        intro w1 hC1
        simp only [Flow.fill, Flow.after, Flow.at_, List.nil_append, List.cons_append, List.getD_cons_zero, List.getD_cons_succ, det, forall_eq, List.setIfInBounds_toArray, List.set_cons_zero, List.set_cons_succ, List.drop, List.length]
        have hb3 := hC1
        have hs3 := hb3.size; have hbox := hbox0.fr (Fr.of_grow hb3) (fun h => h); have hc3x := hbox.cell; have hl3x := hbox.lt; have hbw3 := hbq.out.trans (hb3.mono hgq)
        go_wp2
        exact Flow.post_det hb3 (Grow.refl _) rfl rfl
      apply Flow.det_step
      · go_light
        intro w1 hC1
        simp only [Flow.fill, Flow.after, Flow.at_, List.nil_append, List.cons_append, List.getD_cons_zero, List.getD_cons_succ, det, forall_eq, List.setIfInBounds_toArray, List.set_cons_zero, List.set_cons_succ, List.drop, List.length]
        have hb3 := hC1
        have hs3 := hb3.size; have hbox := hbox0.fr (Fr.of_grow hb3) (fun h => h); have hc3x := hbox.cell; have hl3x := hbox.lt; have hbw3 := hbq.out.trans (hb3.mono hgq)
        go_wp2
        exact Flow.post_det hb3 (Grow.refl _) rfl rfl
      refine Flow.st_step (rowSt w.heap.size 39 4 n2 (ns.flatMap Nm.cells)) ?_ ?_
      · go_light
        intro w1 hC1
        simp only [Flow.fill, Flow.after, Flow.at_, List.nil_append, List.cons_append, List.getD_cons_zero, List.getD_cons_succ, det, forall_eq, List.setIfInBounds_toArray, List.set_cons_zero, List.set_cons_succ, List.drop, List.length]
        have hb3 := hC1
        have hs3 := hb3.size; have hbox := hbox0.fr (Fr.of_grow hb3) (fun h => h); have hc3x := hbox.cell; have hl3x := hbox.lt; have hbw3 := hbq.out.trans (hb3.mono hgq)
        go_wp2_with (at_builtin; refine wpList_append_row _ rfl (.const (.slice none 0 0)) (.tmp 23) 34 rfl w.heap.size 39 im (.agg #[.string ByteArray.empty, .int .i64 0, .int .i64 0, .bool false]) 4 40 Try.underlying34 him hzm0 hzm1 hzm2 rfl (by decide) (.slice none 0 0) 0 [] rfl (Row.nil _ _ _ _) B A2 n2 c2 (ns.flatMap Nm.cells) rfl (Reads.below' HN0.out.1.1 hbw3 (by omega)) (one_nm ns) (by unfold maxLen; omega) (by omega) (by omega) ?_)
        intro A' c' w5 hr5 hg5 _
        have hg6 := Grow.of_none hg5
        exact Flow.post_st (hb3.trans (hg6.mono hs3)) hg6 rfl rfl ⟨A', c', by simp, by simpa using hr5⟩
      apply Flow.det_step
      · go_light
        intro w1 hC1
        simp only [Flow.fill, Flow.after, Flow.at_, List.nil_append, List.cons_append, List.getD_cons_zero, List.getD_cons_succ, det, forall_eq, List.setIfInBounds_toArray, List.set_cons_zero, List.set_cons_succ, List.drop, List.length]
        have hb3 := hC1
        have hs3 := hb3.size; have hbox := hbox0.fr (Fr.of_grow hb3) (fun h => h); have hc3x := hbox.cell; have hl3x := hbox.lt; have hbw3 := hbq.out.trans (hb3.mono hgq)
        go_wp2
        exact Flow.post_det hb3 (Grow.refl _) rfl rfl
      apply Flow.det_step
      · go_light
        intro w1 hC1
        simp only [Flow.fill, Flow.after, Flow.at_, List.nil_append, List.cons_append, List.getD_cons_zero, List.getD_cons_succ, det, forall_eq, List.setIfInBounds_toArray, List.set_cons_zero, List.set_cons_succ, List.drop, List.length]
        have hb3 := hC1
        have hs3 := hb3.size; have hbox := hbox0.fr (Fr.of_grow hb3) (fun h => h); have hc3x := hbox.cell; have hl3x := hbox.lt; have hbw3 := hbq.out.trans (hb3.mono hgq)
        go_wp2
        exact Flow.post_det hb3 (Grow.refl _) rfl rfl
      refine Flow.st_step (rowSt w.heap.size 41 3 n3 (ds.flatMap Nd.cells)) ?_ ?_
      · go_light
        intro w1 hC1
        simp only [Flow.fill, Flow.after, Flow.at_, List.nil_append, List.cons_append, List.getD_cons_zero, List.getD_cons_succ, det, forall_eq, List.setIfInBounds_toArray, List.set_cons_zero, List.set_cons_succ, List.drop, List.length]
        have hb3 := hC1
        have hs3 := hb3.size; have hbox := hbox0.fr (Fr.of_grow hb3) (fun h => h); have hc3x := hbox.cell; have hl3x := hbox.lt; have hbw3 := hbq.out.trans (hb3.mono hgq)
        go_wp2_with (at_builtin; refine wpList_append_row _ rfl (.const (.slice none 0 0)) (.tmp 26) 35 rfl w.heap.size 41 iD (.agg #[.int .i64 0, .string ByteArray.empty, .int .i64 0]) 3 32 Try.underlying35 hiD hzD0 hzD1 hzD2 rfl (by decide) (.slice none 0 0) 0 [] rfl (Row.nil _ _ _ _) B A3 n3 c3 (ds.flatMap Nd.cells) rfl (Reads.below' HD0.out.1.1 hbw3 (by omega)) (one_nd ds) (by unfold maxLen; omega) (by omega) (by omega) ?_)
        intro A' c' w5 hr5 hg5 _
        have hg6 := Grow.of_none hg5
        exact Flow.post_st (hb3.trans (hg6.mono hs3)) hg6 rfl rfl ⟨A', c', by simp, by simpa using hr5⟩
      refine Flow.st_step (foSt w.heap.size ⟨⟨A0, n0, c0, A1, n1, c1, A2, n2, c2, A3, n3, c3, ns, ds⟩, ws, bs⟩) ?_ ?_
      · go_light
        intro w1 hC1
        simp only [Flow.fill, Flow.after, Flow.at_, List.nil_append, List.cons_append, List.getD_cons_zero, List.getD_cons_succ, det, forall_eq, List.setIfInBounds_toArray, List.set_cons_zero, List.set_cons_succ, List.drop, List.length]
        rintro _ ⟨X0, d0, rfl, hr0⟩ _ ⟨X1, d1, rfl, hr1⟩ _ ⟨X2, d2, rfl, hr2⟩ _ ⟨X3, d3, rfl, hr3⟩
        have hb3 := hC1
        have hs3 := hb3.size; have hbox := hbox0.fr (Fr.of_grow hb3) (fun h => h); have hc3x := hbox.cell; have hl3x := hbox.lt; have hbw3 := hbq.out.trans (hb3.mono hgq)
        go_wp2
        exact Flow.post_st hb3 (Grow.refl _) rfl rfl ⟨⟨⟨X0, n0, d0, X1, n1, d1, X2, n2, d2, X3, n3, d3, ns, ds⟩, ws, bs⟩, rfl, ⟨hr0, hr1, hr2, hr3, HN0.out.2, HD0.out.2, HB0.out.2, HN0.out.len, HD0.out.len⟩, rfl⟩
      refine Flow.st_step (boxSt w.heap.size ⟨⟨A0, n0, c0, A1, n1, c1, A2, n2, c2, A3, n3, c3, ns, ds⟩, ws, bs⟩) ?_ ?_
      · go_light
        intro w1 hC1
        simp only [Flow.fill, Flow.after, Flow.at_, List.nil_append, List.cons_append, List.getD_cons_zero, List.getD_cons_succ, det, forall_eq, List.setIfInBounds_toArray, List.set_cons_zero, List.set_cons_succ, List.drop, List.length]
        rintro _ ⟨f, rfl, hfof, hfs⟩
        have hb3 := hC1
        have hs3 := hb3.size; have hbox := hbox0.fr (Fr.of_grow hb3) (fun h => h); have hc3x := hbox.cell; have hl3x := hbox.lt; have hbw3 := hbq.out.trans (hb3.mono hgq)
        unfold Ob.vals
        go_wp2
        exact Flow.post_st (hb3.alloc hs3 _) (Grow.alloc _ _) rfl rfl ⟨_, f, rfl, hfof.grow (Grow.alloc _ _), hfs, Blk.new _ _ _⟩
      intro w1 hC1
      simp only [Flow.fill, Flow.after, Flow.at_, List.nil_append, List.cons_append, List.getD_cons_zero, List.getD_cons_succ, det, forall_eq, List.setIfInBounds_toArray, List.set_cons_zero, List.set_cons_succ, List.drop, List.length]
      rintro _ - _ - _ - _ - _ - _ ⟨g, f, rfl, hfof, hfs, hfb⟩
      have hb3 := hC1
      have hC9 := hb3; have hs3 := hb3.size
      have hfo2 := hfo1.grow hC9
      have hgl := hfb.lt
      have hln : fs'.length ≤ 12 := by omega
      have hz96 : (fs'.length + 1) * 96 ≤ 140737488355328 := by omega
      go_wp2_with (at_builtin; refine wpList_append_row _ rfl (.tmp 15) (.tmp 29) 22 rfl w.heap.size 37 iF (.agg #[.slice none 0 0, .slice none 0 0, .slice none 0 0, .slice none 0 0]) 4 96 Try.underlying22 hiF hzF0 hzF1 hzF2 rfl (by decide) (.slice Ao fs'.length co) fs'.length (fs'.flatMap Fo.cells) rfl hfo2.row w1.heap.size (some ⟨g, 0, none⟩) 1 1 f.cells rfl (buf_reads rfl hgl (fun i u hu => (hfb.cell i).trans (by simpa using hu))) (one_fo f) (by unfold maxLen; omega) hz96 (by omega) ?_)
      intro A9 c9 w9 hr9 hg9 ho9
      have hf9 := Fr.of_grown hg9
      have hnew := Lib.hid (show FosOwn w9 w.heap.size (.slice A9 (fs'.length + 1) c9) (fs' ++ [f]) from ⟨by rw [List.length_append]; simpa using hr9, fun x hx => by
        rcases List.mem_append.1 hx with hx | hx
        · exact (hfo2.own x hx).app hfo2.row hf9
        · simp at hx; subst hx; exact hfof.app hfo2.row hf9⟩)
      have hlow := Lib.hid (show Below w.heap.size w w9 from (hb1.trans (hC9.mono hws)).grown hg9 (by omega) (fun k hk => (hfo2.row.lt k hk).1))
      have hsy9 := Lib.hid (show (fs' ++ [f]).map Fo.says = (fs.take (fs'.length + 1)).map Fo.says by rw [hsx.out, List.map_append, hsy, List.map_cons, List.map_nil, hfs])
      have hln9 := Lib.hid (show (fs' ++ [f]).length = fs'.length + 1 by rw [List.length_append]; rfl)
      clear hr9 hg9 ho9 hf9 hfo1 hfo2 hfof hfs hfb hsy hb1 hbw hC1 hC9 hb3
      go_wp2
      go_roundw
      case rel => exact ⟨fs'.length + 1, fs' ++ [f], by omega, by go_num, hln9.out, hnew.out, hsy9.out, hlow.out⟩
      case measure => simp [intOf]; omega
end Go.Proofs.Ytplfdibbnkjckaa
