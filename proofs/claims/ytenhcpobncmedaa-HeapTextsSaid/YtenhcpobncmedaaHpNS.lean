/- The law of a heap with keys of type ByteArray: the walk. -/
import Derived.Test.YtenhcpobncmedaaHpMS
import Derived.Test.YtenhcpobncmedaaHpIS
import Derived.Deep.CutBlock
import Derived.Deep.DeepCutAuto
namespace Go.Proofs.Ytenhcpobncmedaa.HS
open Go.RowKit
set_option maxHeartbeats 600000
set_option linter.unusedVariables false
set_option linter.unusedSimpArgs false
/-- The same with the play's own cell. -/
structure HX (w wx : World) (g b : Nat) (vi vk vl : Value) (ps l : List (Int × ByteArray)) (f : Int → Option Int) (cnt qb : Nat) (id : Int) : Prop where
  hm : HM w wx g b vi vk vl ps l f cnt
  box : Blk wx qb #[.int .i64 id] 3
  sep : ∀ k, F g b vi vk k ∨ vl.ownBlock = some k → k ≠ qb
namespace HX
variable {w wx w' : World} {g b qb : Nat} {vi vk vl : Value} {ps l qs : List (Int × ByteArray)} {f : Int → Option Int} {cnt cnt' : Nat} {id : Int}
theorem grow (h : HX w wx g b vi vk vl ps l f cnt qb id) (hb : Below wx.heap.size wx w') : HX w w' g b vi vk vl ps l f cnt qb id := ⟨h.hm.grow hb, h.box.fr (Fr.of_grow hb) (fun h => h), h.sep⟩
theorem drewN (h : HX w wx g b vi vk vl ps l f cnt qb id) (m : Nat) : HX w (wx.drewN m) g b vi vk vl ps l f cnt qb id := ⟨h.hm.drewN m, h.box, h.sep⟩
theorem new (h : HM w wx g b vi vk vl ps l f cnt) (id : Int) : HX w (wx.alloc (.cells #[.int .i64 id] 3)) g b vi vk vl ps l f cnt wx.heap.size id :=
  ⟨h.grow ((Below.refl _ _).alloc (Nat.le_refl _) _), Blk.new _ _ _, fun k hk e => by
    rcases hk with hk | hk
    · have := (h.ok.st.lt k hk).2; omega
    · have := (h.row.lt k hk).2; omega⟩
theorem go (h : HX w wx g b vi vk vl ps l f cnt qb id) (hg : GoOk wx w.heap.size g b vi vk qs cnt' w') : ∃ vi' vk' ps' f', HX w w' g b vi' vk' vl ps' l f' cnt' qb id ∧ ps'.Perm qs := by
  obtain ⟨vi', vk', ps', f', a1, a2, a3, a4⟩ := hg
  refine ⟨vi', vk', ps', f', ⟨⟨a1, h.hm.row.fr a3 (fun k hk hk' => h.hm.ne k hk' hk), h.hm.low.trans (a3.below h.hm.low.size (fun k hk => (h.hm.ok.st.lt k hk).1))⟩, h.box.fr a3 (fun e => h.sep qb (.inl e) rfl), fun k hk => ?_⟩, a2⟩
  rcases hk with hk | hk
  · rcases a4 k hk with e | e
    · exact h.sep k (.inl e)
    · have := h.box.lt; omega
  · exact h.sep k (.inr hk)
theorem list {l' : List (Int × ByteArray)} {vl' : Value} {S : Nat → Prop} (h : HX w wx g b vi vk vl ps l f cnt qb id) (hf : Fr S wx w') (hS : ∀ k, S k → vl.ownBlock = some k) (hr : Row w' w.heap.size 143 2 vl' l'.length (l'.flatMap pc)) (ho : ∀ k, vl'.ownBlock = some k → vl.ownBlock = some k ∨ wx.heap.size ≤ k) : HX w w' g b vi vk vl' ps l' f cnt qb id :=
  ⟨h.hm.list hf hS hr, h.box.fr hf (fun e => h.sep qb (.inr (hS _ e)) rfl), fun k hk => by
    rcases hk with hk | hk
    · exact h.sep k (.inl hk)
    · rcases ho k hk with e | e
      · exact h.sep k (.inr e)
      · have := h.box.lt; omega⟩
theorem app (h : HX w wx g b vi vk vl ps l f cnt qb id) {X : Obj} {v9 : Value} {id' : Int} {k : ByteArray} {w1 : World} {n : Nat} (hn : l.length = n) (hr : Row w1 w.heap.size 143 2 v9 (n + 1) (l.flatMap pc ++ [.int .i64 id', .string k])) (hg : (wx.alloc X).grownBy w1 vl.ownBlock)
    (ho : v9.ownBlock = vl.ownBlock ∨ v9.ownBlock = some (wx.heap.size + 1)) : HX w w1 g b vi vk v9 ps (l ++ [(id', k)]) f cnt qb id := by
  refine h.list (S := fun k => vl.ownBlock = some k) (((Fr.refl _ wx).alloc X).grown hg (fun k e _ => e)) (fun k hk => hk) ?_ (fun k hk => ?_)
  · rw [List.length_append, List.flatMap_append, hn]; exact hr
  · rcases own_cases ho hk with e | e
    · exact .inl e
    · exact .inr (by omega)
end HX
theorem pc_one2 (id : Int) (k : ByteArray) : ∀ u ∈ [Value.int .i64 id, .string k], u.oneCell' = true := by
  intro u hu
  simp at hu
  rcases hu with rfl | rfl <;> rfl
theorem row_free {w : World} {B e s n q o c : Nat} {l : List Value} (h : Row w B e s (.slice (some ⟨q, o, none⟩) n c) n l) : ∀ j, w.frozen? ⟨q, j, none⟩ = false := by
  rcases h.2 with ⟨e1, h0⟩ | ⟨q', o', cap, cur, e1, hb, hg, hnc, hcm, hs, hx⟩
  · injection e1 with e1; cases e1
  · injection e1 with e1
    injection e1 with e1
    injection e1 with e1 e2
    subst e1
    exact fun j => Blk.free (w := w) (cs := cur) (t := e) hg j
theorem out_perm {ps l qs : List (Int × ByteArray)} {x : Int × ByteArray} {i : Nat} (hp : ps.Perm l) (hi : i < l.length) (hx : l.getD i zp = x) (ho : ps.Perm (x :: qs)) : qs.Perm (l.eraseIdx i) := by
  have h1 := erase_cons hi
  rw [hx] at h1
  exact (ho.symm.trans (hp.trans h1)).cons_inv
theorem set_perm {ps l : List (Int × ByteArray)} {i j : Nat} (hp : ps.Perm l) (hi : i < l.length) (hj : j < ps.length) (he : ps.getD j zp = l.getD i zp) (k : ByteArray) : (ps.set j ((ps.getD j zp).1, k)).Perm (l.set i ((l.getD i zp).1, k)) := by
  rw [he]
  refine (set_cons hj _).trans (List.Perm.trans (List.Perm.cons _ ?_) (set_cons hi _).symm)
  have h1 := erase_cons hj
  rw [he] at h1
  exact out_perm hp hi rfl h1
def HLoop (w : World) (g k : Nat) (vl : Value) (wr : World) : Prop :=
  ∃ (b : Nat) (vi vk : Value) (ps l : List (Int × ByteArray)) (f : Int → Option Int) (cnt : Nat), HM w wr g b vi vk vl ps l f cnt ∧ HP ps l ∧ cnt ≤ k ∧ l.length ≤ k
def HCut (w : World) (g k qb : Nat) (id : Int) (vl : Value) (wr : World) : Prop :=
  ∃ (b : Nat) (vi vk : Value) (ps l : List (Int × ByteArray)) (f : Int → Option Int) (cnt : Nat), HX w wr g b vi vk vl ps l f cnt qb id ∧ HP ps l ∧ cnt ≤ k ∧ l.length ≤ k
set_option maxHeartbeats 16000000 in
set_option maxRecDepth 100000 in
theorem law40 (q : Nat) (kf : Int → ByteArray) (A : Option Addr) (n c : Nat) (pls : List Pl) (w : World) (h : RPl w w.heap.size A n pls) (hn : n ≤ 5864062014638)
    (HKEY : ∀ (v : Int) (W : World), (Lit.int .i64 v).wf = true → Below w.heap.size w W → Calls Try.prog 41 #[.int .i64 v, .pointer (some ⟨q, 0, none⟩)] W fun e w' => e = .returned (.string (kf v)) ∧ ∃ nq, w' = W.drewN nq) :
    Calls Try.prog 40 #[.slice A n c, .func (.func 41) #[] #[.pointer (some ⟨q, 0, none⟩)]] w fun e w' => e = .returned (.bool true) ∧ Below w.heap.size w w' := by
  have hmf : ∀ fn first cap w, (Instr.makeFunc fn first cap).run Try.prog w = .ok (.func fn first cap) w := fun _ _ _ _ => rfl
  obtain ⟨i6, hi, hz0, hz1, hz2⟩ := info_parts infoP
  have HKY := Lib.hid HKEY
  clear HKEY
  go_enter Try.func40, Try.ntmps40
  go_wp2_with fail
  refine (new37 w).mono ?_
  rintro e w1 ⟨rfl, hw1⟩
  have hok := new_ok w w.heap.size (Nat.le_refl _)
  rw [← hw1] at hok
  have hb1 : Below w.heap.size w w1 := by rw [hw1]; exact ((Below.refl _ _).alloc (Nat.le_refl _) _).alloc (by simp) _
  have HST : Hid (HLoop w (w.heap.size + 1) 0 (.slice none 0 0) w1) := Lib.hid ⟨_, _, _, _, [], _, _, ⟨hok, Row.nil _ _ _ _, hb1⟩, HP.of_pos hok.pos (List.Perm.refl _), Nat.le_refl _, Nat.le_refl _⟩
  clear hw1 hok hb1
  generalize w.heap.size + 1 = g at *
  go_wp2_with fail
  go_loopw [6, 29] (fun v6 i wr => ∃ k : Nat, k ≤ n ∧ i = .int .i64 k ∧ HLoop w g k v6 wr) (fun _ i _ => n - (intOf i).toNat)
  case atStart => exact ⟨0, by omega, rfl, HST.out⟩
  case round =>
    clear HST
    obtain ⟨k, hk, rfl, bq, vi, vk, ps, l, f, cnt, hM, hP, hcn, hln⟩ := hrel
    by_cases hlt : k < n
    rotate_left
    · obtain rfl : k = n := by omega
      have hlow := hM.low
      clear hM hP
      go_wp2
      go_ret
      exact ⟨rfl, hlow⟩
    · obtain ⟨b9, o9, rfl, hb9, hcell, hfine⟩ := (h.below' hM.low (Nat.le_refl _)).at_ hlt
      generalize pls.getD k .zero = p at *
      obtain ⟨Ap, np, cp, xs⟩ := p
      obtain ⟨hri, hnp⟩ := hfine
      dsimp only at hcell hri hnp
      have hkn : (k : Int) < n := by omega
      have hx1 := RI.rng hri 1 (by decide)
      have hx2 := RI.rng hri 2 (by decide)
      have hRD : RD wr w.heap.size Ap np xs := RD.of_ri hri
      obtain ⟨Al, cl9, hvl, _, hcl1, hcl2⟩ := hM.rs
      subst hvl
      clear hri
      go_wp2_with fail
      refine (at_any Ap np cp xs 1 _ _ hRD hnp (by omega)).mono ?_
      rintro e w4 ⟨rfl, rfl⟩
      generalize xs.getD 1 0 = id at *
      go_wp2_with fail
      refine (at_any Ap np cp xs 2 _ _ hRD hnp (by omega)).mono ?_
      rintro e w4 ⟨rfl, rfl⟩
      generalize xs.getD 2 0 = v at *
      have HKV := Lib.hid (HKY.out v wr hx2 hM.low)
      go_wp2_with fail
      refine HKV.out.mono ?_
      rintro e w4 ⟨rfl, nq, rfl⟩
      generalize kf v = key at *
      have hM0 := hM.drewN nq
      have hRD0 : RD (wr.drewN nq) w.heap.size Ap np xs := Reads.drewN hRD nq
      clear hM hRD hcell HKV
      generalize wr.drewN nq = W0 at *
      have hsz0 := hM0.low.size
      have hX := HX.new hM0 id
      have hRD2 : RD (W0.alloc (.cells #[.int .i64 id] 3)) w.heap.size Ap np xs := Reads.alloc hRD0 hM0.low.size _
      obtain ⟨_, _, hA1, hrs, _, _⟩ := hX.hm.rs
      injection hA1 with q1 q2 q3
      subst q1
      subst q3
      have hxc := hX.box.cell 0
      have HIF := Lib.hid (idxf1 id W0.heap.size Al l.length cl9 l _ _ hrs (Nat.le_refl _) (by have := hcl2; unfold maxLen at this; omega) hxc)
      have HXX := Lib.hid hX
      clear hX hM0 hRD0 hrs hxc
      generalize hll : l.length = ll at *
      have HLL := Lib.hid hll
      clear hll
      obtain ⟨ix, hix⟩ : ∃ q, idxI (ids l) id = q := ⟨_, rfl⟩
      rw [hix] at HIF
      have HIX := Lib.hid hix
      clear hix q2
      go_wp2_with fail
      refine HIF.out.mono ?_
      rintro e w5 ⟨rfl, hb5⟩
      have HX5 := Lib.hid (HXX.out.grow hb5)
      have hRD5 : RD w5 w.heap.size Ap np xs := Reads.below' hRD2 hb5 (by simp; omega)
      have hq5 := HX5.out.box.cell 0
      have hql5 := HX5.out.box.lt
      clear hRD2 hb5 HXX HIF
      generalize W0.heap.size = qb at *
      go_wp2_with fail
      refine (at_any Ap np cp xs 0 _ _ hRD5 hnp (by omega)).mono ?_
      rintro e w4 ⟨rfl, rfl⟩
      generalize xs.getD 0 0 = y at *
      clear hRD5
      go_upto_block 2 with fail
      go_cut [6, 11, 12] (fun s6 s11 s12 wx => HCut w g (k + 1) qb id s6 wx)
      case first =>
        by_cases hy1 : y = 1
        · as_aux_lemma =>
            have e1 : (y == 1) = true := by simpa using hy1
            clear hy1
            have hPL := hP.len
            rw [HLL.out] at hPL
            rcases idx_cases l id with hi0 | ⟨i, hi0⟩
            · obtain rfl : ix = -1 := HIX.out.symm.trans hi0
              have hfn := not_there HX5.out.hm.ok.pos hP.perm hi0
              have HPU := Lib.hid (push_new g bq vi vk ps f cnt id key w5 w.heap.size HX5.out.hm.ok HX5.out.hm.low.size hx1 hfn (by omega) (by unfold maxLen; omega))
              have HPN : Hid (∀ ps' : List (Int × ByteArray), ps'.Perm (ps ++ [(id, key)]) → ps'.Perm (l ++ [(id, key)])) := Lib.hid (fun ps' h => h.trans (hP.perm.append_right _))
              clear hi0 hfn hP HIX hPL
              go_wp2_with fail
              refine HPU.out.mono ?_
              rintro e w6 ⟨rfl, hgo⟩
              obtain ⟨vi2, vk2, ps2, f2, hX6, hp6⟩ := HX5.out.go hgo
              have hq6 := hX6.box.cell 0
              have hql6 := hX6.box.lt
              have hrow := hX6.hm.row
              rw [HLL.out] at hrow
              have hsz6 := hX6.hm.low.size
              have HX6 := Lib.hid hX6
              have HP6 := Lib.hid hp6
              clear hX6 hp6 hgo hq5 hql5
              go_wp2_with (at_builtin; refine wpList_append_row _ rfl (.tmp 56) (.tmp 60) 140 rfl w.heap.size 143 i6 (.agg #[.int .i64 0, .string ⟨#[]⟩]) 2 24 Try.underlying140 hi hz0 hz1 hz2 rfl (by decide) (.slice Al ll cl9) ll (l.flatMap pc) rfl (hrow.alloc _) (w6.heap.size + 1) (some ⟨w6.heap.size, 0, none⟩) 1 1 [.int .i64 id, .string key] rfl (reads_two w6 (.int .i64 id) (.string key) 143) (pc_one2 id key) (by unfold maxLen; omega) (by omega) (by simp; omega) ?_)
              intro A8 c8 w8 hr8 hg8 ho8
              have hX8 := HX6.out.app HLL.out hr8 hg8 (by simpa using ho8)
              have HN : Hid (HCut w g (k + 1) qb id (.slice A8 (ll + 1) c8) w8) := Lib.hid ⟨bq, vi2, vk2, ps2, _, f2, cnt + 1, hX8, HP.of_pos hX8.hm.ok.pos (HPN.out _ HP6.out), by omega, by rw [List.length_append, HLL.out]; simp; omega⟩
              clear hr8 hg8 ho8 hX8 hrow
              go_wp2
              go_meet
              exact HN.out
            · obtain rfl : ix = i := HIX.out.symm.trans hi0
              obtain ⟨hil, hid9, j, hj, hfj, hjl⟩ := there HX5.out.hm.ok.pos hP.perm hi0
              have HPU := Lib.hid (push_there g bq vi vk ps f cnt id j key w5 w.heap.size HX5.out.hm.ok.st hx1 hfj)
              have HN : Hid (HCut w g (k + 1) qb id (.slice Al ll cl9) w5) := Lib.hid ⟨bq, vi, vk, ps, l, f, cnt, HX5.out, hP, by omega, by have := HLL.out; omega⟩
              clear hi0 hil hid9 hj hfj hjl hP HIX hPL
              go_wp2_with fail
              refine HPU.out.mono ?_
              rintro e w6 ⟨rfl, rfl⟩
              go_wp2
              go_meet
              exact HN.out
        by_cases hy2 : y = 2
        · as_aux_lemma =>
            have e1 : (y == 1) = false := by simp; omega
            have e2 : (y == 2) = true := by simpa using hy2
            clear hy1 hy2
            have hPL := hP.len
            rw [HLL.out] at hPL
            by_cases h0 : ll = 0
            · subst h0
              obtain rfl : ps = [] := List.eq_nil_of_length_eq_zero hPL
              obtain rfl : l = [] := List.eq_nil_of_length_eq_zero HLL.out
              have HPU := Lib.hid (pop_none g bq vi vk f cnt w5 w.heap.size HX5.out.hm.ok.st)
              have hrs5 : RS pc 2 w5 w5.heap.size Al 0 [] := ⟨⟨rfl, fun h => absurd h (by omega)⟩, rfl⟩
              have HFI := Lib.hid (first104 Al 0 cl9 [] w5 _ hrs5 (Nat.le_refl _) (by omega))
              have HN : Hid (∀ w9, Below w5.heap.size w5 w9 → HCut w g (k + 1) qb id (.slice Al 0 cl9) w9) := Lib.hid (fun w9 hb => ⟨bq, vi, vk, [], [], f, cnt, HX5.out.grow hb, hP, by omega, by simp⟩)
              clear hP HIX hPL hrs5
              go_wp2_with fail
              refine HPU.out.mono ?_
              rintro e w6 ⟨rfl, rfl⟩
              go_wp2_with fail
              refine HFI.out.mono ?_
              rintro e w7 ⟨i7, rfl, hF7, hb7⟩
              have HN7 := Lib.hid (HN.out w7 hb7)
              rcases hF7 with ⟨_, rfl⟩ | ⟨m, hm, _⟩
              rotate_left
              · omega
              clear hb7
              go_wp2
              go_meet
              exact HN7.out
            · have hpn : 0 < ps.length := by omega
              have HPU := Lib.hid (pop_some g bq vi vk ps f cnt w5 w.heap.size HX5.out.hm.ok hpn (by omega) (by unfold maxLen; omega))
              have HTOP := Lib.hid (fun m (hm : m < l.length) hmin => first_top HX5.out.hm.ok.heap hP.perm hm hmin)
              have HOP := Lib.hid (fun m qs (hm : m < l.length) hx ho => out_perm (x := ps.getD 0 zp) (qs := qs) hP.perm hm hx ho)
              clear hP HIX hpn
              generalize hpp : ps.getD 0 zp = p0 at *
              have HPP0 := Lib.hid hpp
              clear hpp
              obtain ⟨x0, y0⟩ := p0
              dsimp only at HPU
              go_wp2_with fail
              refine HPU.out.mono ?_
              rintro e w6 ⟨rfl, qs, hqs, hgo⟩
              rw [HPP0.out] at hqs
              obtain ⟨vi2, vk2, ps2, f2, hX6, hp6⟩ := HX5.out.go hgo
              obtain ⟨A6, c6, hv6, hrs6, hc6, hd6⟩ := hX6.hm.rs
              injection hv6 with r1 r2 r3
              subst r1
              subst r3
              clear r2
              rw [HLL.out] at hrs6 hc6
              have HFI := Lib.hid (first104 Al ll cl9 l w6 _ hrs6 (Nat.le_refl _) (by omega))
              have HX6 := Lib.hid hX6
              have HP6 := Lib.hid hp6
              have HQS := Lib.hid hqs
              clear hgo hX6 hp6 hqs hrs6 hq5 hql5
              go_wp2_with fail
              refine HFI.out.mono ?_
              rintro e w7 ⟨i7, rfl, hF7, hb7⟩
              have hX7 := HX6.out.grow hb7
              rcases hF7 with ⟨h9, _⟩ | ⟨m, hm, rfl, hmin⟩
              · exact absurd h9 h0
              have htop := HTOP.out m (by rw [HLL.out]; exact hm) (by rw [HLL.out]; exact hmin)
              have hop := HOP.out m qs (by rw [HLL.out]; exact hm) htop HQS.out
              obtain ⟨A7, c7, hv7, hrs7, hc7, hd7⟩ := hX7.hm.rs
              injection hv7 with r1 r2 r3
              subst r1
              subst r3
              clear r2
              rw [HLL.out] at hrs7
              obtain ⟨bb, oo, rfl, hbb, k0, k1⟩ := pair_at hrs7 hm
              rw [htop] at k0 k1
              dsimp only at k0 k1
              have hrow := hX7.hm.row
              rw [HLL.out] at hrow
              have hmi : (m : Int) < (ll : Int) := by omega
              have HDL := Lib.hid (delete105 bb oo ll cl9 m l w7 w.heap.size hrow hm ⟨hc6, by have := hd7; unfold maxLen at this; omega⟩)
              have HX7 := Lib.hid hX7
              have HPP := Lib.hid (HP6.out.trans hop)
              have hel : Hid ((l.eraseIdx m).length = ll - 1) := Lib.hid (by rw [List.length_eraseIdx, HLL.out, if_pos hm])
              have HPLL := Lib.hid hln
              clear hmin htop hop hrs7 hrow hX7 hb7
              go_wp2_with fail
              refine HDL.out.mono ?_
              rintro e w8 ⟨rfl, hr8, hf8⟩
              have hX8 := HX7.out.list (l' := l.eraseIdx m) hf8 (fun k hk => by rw [hk]; rfl) (by rw [hel.out]; exact hr8) (fun k hk => .inl (by rw [← hk]; rfl))
              have HN : Hid (HCut w g (k + 1) qb id (.slice (some ⟨bb, oo, none⟩) (ll - 1) cl9) w8) := Lib.hid ⟨bq, vi2, vk2, ps2, _, f2, cnt, hX8, HP.of_pos hX8.hm.ok.pos HPP.out, by omega, by rw [hel.out]; omega⟩
              clear hr8 hf8 hX8
              go_wp2
              go_meet
              exact HN.out
        by_cases hy3 : y = 3
        · as_aux_lemma =>
            have e1 : (y == 1) = false := by simp; omega
            have e2 : (y == 2) = false := by simp; omega
            have e3 : (y == 3) = true := by simpa using hy3
            clear hy1 hy2 hy3
            have hPL := hP.len
            rw [HLL.out] at hPL
            rcases idx_cases l id with hi0 | ⟨i, hi0⟩
            · obtain rfl : ix = -1 := HIX.out.symm.trans hi0
              have hfn := not_there HX5.out.hm.ok.pos hP.perm hi0
              have HPU := Lib.hid (turn_none g bq vi vk ps f cnt id key w5 w.heap.size HX5.out.hm.ok.st hx1 hfn)
              have HN : Hid (HCut w g (k + 1) qb id (.slice Al ll cl9) w5) := Lib.hid ⟨bq, vi, vk, ps, l, f, cnt, HX5.out, hP, by omega, by have := HLL.out; omega⟩
              clear hi0 hfn hP HIX hPL
              go_wp2_with fail
              refine HPU.out.mono ?_
              rintro e w6 ⟨rfl, rfl⟩
              go_wp2
              go_meet
              exact HN.out
            · obtain rfl : ix = i := HIX.out.symm.trans hi0
              obtain ⟨hil, hid9, j, hj, hfj, hjl⟩ := there HX5.out.hm.ok.pos hP.perm hi0
              have HPU := Lib.hid (turn_some g bq vi vk ps f cnt id j key w5 w.heap.size HX5.out.hm.ok hx1 hfj hj (by omega) (by unfold maxLen; omega))
              have HSP := Lib.hid (set_perm hP.perm hil hj hjl key)
              have HSF := Lib.hid (set_flat l i key hil)
              rw [HLL.out] at hil
              clear hi0 hid9 hj hfj hjl hP HIX hPL
              go_wp2_with fail
              refine HPU.out.mono ?_
              rintro e w6 ⟨rfl, hgo⟩
              obtain ⟨vi2, vk2, ps2, f2, hX6, hp6⟩ := HX5.out.go hgo
              obtain ⟨A6, c6, hv6, hrs6, hc6, hd6⟩ := hX6.hm.rs
              injection hv6 with r1 r2 r3
              subst r1
              subst r3
              clear r2
              rw [HLL.out] at hrs6
              obtain ⟨bb, oo, rfl, hbb, k0, k1⟩ := pair_at hrs6 hil
              have hrow := hX6.hm.row
              rw [HLL.out] at hrow
              have kf := row_free hrow (oo + i * 2 + 1)
              have hii : (i : Int) < (ll : Int) := by omega
              have hr7 := hrow.stored (j := i * 2 + 1) (by omega) (.string key)
              rw [HSF.out, ← Nat.add_assoc] at hr7
              have hf7 : Fr (fun k => k = bb) w6 (w6.setCell ⟨bb, oo + i * 2 + 1, none⟩ (.string key)) := (Fr.refl (fun k => k = bb) w6).setCell (p := ⟨bb, oo + i * 2 + 1, none⟩) (fun _ => rfl) _
              have hX7 := hX6.list (l' := l.set i ((l.getD i zp).1, key)) hf7 (fun k hk => by rw [hk]; rfl) (by rw [List.length_set, HLL.out]; exact hr7) (fun k hk => .inl hk)
              have HN : Hid (HCut w g (k + 1) qb id (.slice (some ⟨bb, oo, none⟩) ll cl9) (w6.setCell ⟨bb, oo + i * 2 + 1, none⟩ (.string key))) := Lib.hid ⟨bq, vi2, vk2, ps2, _, f2, cnt, hX7, HP.of_pos hX7.hm.ok.pos (hp6.trans HSP.out), by omega, by rw [List.length_set, HLL.out]; omega⟩
              clear hX6 hX7 hr7 hf7 hrow hrs6 hp6 hgo hq5 hql5
              go_wp2
              go_meet
              exact HN.out
        by_cases hy4 : y = 4
        · as_aux_lemma =>
            have e1 : (y == 1) = false := by simp; omega
            have e2 : (y == 2) = false := by simp; omega
            have e3 : (y == 3) = false := by simp; omega
            have e4 : (y == 4) = true := by simpa using hy4
            clear hy1 hy2 hy3 hy4
            have hPL := hP.len
            rw [HLL.out] at hPL
            rcases idx_cases l id with hi0 | ⟨i, hi0⟩
            · obtain rfl : ix = -1 := HIX.out.symm.trans hi0
              have hfn := not_there HX5.out.hm.ok.pos hP.perm hi0
              have HPU := Lib.hid (out_none g bq vi vk ps f cnt id w5 w.heap.size HX5.out.hm.ok.st hx1 hfn)
              have HN : Hid (HCut w g (k + 1) qb id (.slice Al ll cl9) w5) := Lib.hid ⟨bq, vi, vk, ps, l, f, cnt, HX5.out, hP, by omega, by have := HLL.out; omega⟩
              clear hi0 hfn hP HIX hPL
              go_wp2_with fail
              refine HPU.out.mono ?_
              rintro e w6 ⟨rfl, rfl⟩
              go_wp2
              go_meet
              exact HN.out
            · obtain rfl : ix = i := HIX.out.symm.trans hi0
              obtain ⟨hil, hid9, j, hj, hfj, hjl⟩ := there HX5.out.hm.ok.pos hP.perm hi0
              have HPU := Lib.hid (out_some g bq vi vk ps f cnt id j w5 w.heap.size HX5.out.hm.ok hx1 hfj hj (by omega) (by unfold maxLen; omega))
              have HOP := Lib.hid (fun qs ho => out_perm (x := ps.getD j zp) (qs := qs) hP.perm hil hjl.symm ho)
              have HJL := Lib.hid hjl
              rw [HLL.out] at hil
              clear hi0 hid9 hj hfj hjl hP HIX hPL
              rw [HJL.out] at HPU
              generalize hpp : l.getD i zp = p0 at *
              have HPP0 := Lib.hid hpp
              clear hpp
              obtain ⟨x0, y0⟩ := p0
              dsimp only at HPU
              go_wp2_with fail
              refine HPU.out.mono ?_
              rintro e w6 ⟨rfl, qs, hqs, hgo⟩
              obtain ⟨vi2, vk2, ps2, f2, hX6, hp6⟩ := HX5.out.go hgo
              obtain ⟨A6, c6, hv6, hrs6, hc6, hd6⟩ := hX6.hm.rs
              injection hv6 with r1 r2 r3
              subst r1
              subst r3
              clear r2
              rw [HLL.out] at hrs6 hc6
              obtain ⟨bb, oo, rfl, hbb, k0, k1⟩ := pair_at hrs6 hil
              rw [HPP0.out] at k0 k1
              dsimp only at k0 k1
              have hop := HOP.out qs hqs
              have hrow := hX6.hm.row
              rw [HLL.out] at hrow
              have hii : (i : Int) < (ll : Int) := by omega
              have HDL := Lib.hid (delete105 bb oo ll cl9 i l w6 w.heap.size hrow hil ⟨hc6, by have := hd6; unfold maxLen at this; omega⟩)
              have HX6 := Lib.hid hX6
              have HPP := Lib.hid (hp6.trans hop)
              have hel : Hid ((l.eraseIdx i).length = ll - 1) := Lib.hid (by rw [List.length_eraseIdx, HLL.out, if_pos hil])
              clear hop hrs6 hrow hX6 hp6 hgo hqs hq5 hql5
              go_wp2_with fail
              refine HDL.out.mono ?_
              rintro e w8 ⟨rfl, hr8, hf8⟩
              have hX8 := HX6.out.list (l' := l.eraseIdx i) hf8 (fun k hk => by rw [hk]; rfl) (by rw [hel.out]; exact hr8) (fun k hk => .inl (by rw [← hk]; rfl))
              have HN : Hid (HCut w g (k + 1) qb id (.slice (some ⟨bb, oo, none⟩) (ll - 1) cl9) w8) := Lib.hid ⟨bq, vi2, vk2, ps2, _, f2, cnt, hX8, HP.of_pos hX8.hm.ok.pos HPP.out, by omega, by rw [hel.out]; omega⟩
              clear hr8 hf8 hX8
              go_wp2
              go_meet
              exact HN.out
        as_aux_lemma =>
          have e1 : (y == 1) = false := by simp; omega
          have e2 : (y == 2) = false := by simp; omega
          have e3 : (y == 3) = false := by simp; omega
          have e4 : (y == 4) = false := by simp; omega
          have HN : Hid (HCut w g (k + 1) qb id (.slice Al ll cl9) w5) := Lib.hid ⟨bq, vi, vk, ps, l, f, cnt, HX5.out, hP, by omega, by have := HLL.out; omega⟩
          clear hP hy1 hy2 hy3 hy4
          go_wp2
          go_meet
          exact HN.out
      case rest =>
        as_aux_lemma =>
          clear hP HX5 HIX HLL hq5 hql5 hcl1 hcl2
          rename World => W5
          obtain ⟨b5, vi5, vk5, ps5, l5, f5, cnt5, hX5, hP5, hc5, hl5⟩ := hcut
          obtain ⟨A5, c5, hv5, hrs5, hcc5, hcm5⟩ := hX5.hm.rs
          subst hv5
          have hPL5 := hP5.len
          generalize hll5 : l5.length = l5n at *
          have HLL5 := Lib.hid hll5
          clear hll5
          have HP5 := Lib.hid hP5
          have HX5 := Lib.hid hX5
          clear hP5 hX5
          by_cases h0 : l5n = 0
          · subst h0
            obtain rfl : ps5 = [] := List.eq_nil_of_length_eq_zero hPL5
            obtain rfl : l5 = [] := List.eq_nil_of_length_eq_zero HLL5.out
            have HPU := Lib.hid (peek_none g b5 vi5 vk5 f5 cnt5 W5 w.heap.size HX5.out.hm.ok.st)
            have HFI := Lib.hid (first104 A5 0 c5 [] W5 _ hrs5 (Nat.le_refl _) (by omega))
            clear hPL5 hrs5
            go_wp2_with fail
            refine HPU.out.mono ?_
            rintro e w6 ⟨rfl, rfl⟩
            go_wp2_with fail
            refine HFI.out.mono ?_
            rintro e w7 ⟨i7, rfl, hF7, hb7⟩
            have HN7 := Lib.hid (HX5.out.grow hb7)
            rcases hF7 with ⟨_, rfl⟩ | ⟨m, hm, _⟩
            rotate_left
            · omega
            clear hb7
            have hcutA := HN7.out
            have hX6 := hcutA
            have hq6 := hX6.box.cell 0
            have hql6 := hX6.box.lt
            have hrow := hX6.hm.rs
            obtain ⟨A6, c6, hv6, hrs6, hc6, hd6⟩ := hX6.hm.rs
            injection hv6 with r1 r2 r3
            subst r1
            subst r3
            clear r2 hrow
            have HLE := Lib.hid (fun W hst => len39 g b5 vi5 vk5 [] f5 cnt5 W w.heap.size hst)
            have HX6 := Lib.hid hX6
            have HLP : Hid (∀ wz, HX w wz g b5 vi5 vk5 (.slice A5 0 c5) [] [] f5 cnt5 qb id → HLoop w g (k + 1) (.slice A5 0 c5) wz) := Lib.hid (fun wz hz => ⟨b5, vi5, vk5, [], [], f5, cnt5, hz.hm, HP5.out, hc5, by simp⟩)
            have hi0 : idxI (ids ([] : List (Int × ByteArray))) id = -1 := rfl
            have hfn := not_there hX6.hm.ok.pos HP5.out.perm hi0
            have HPU := Lib.hid (key_none g b5 vi5 vk5 [] f5 cnt5 id w7 w.heap.size hX6.hm.ok.st hx1 hfn)
            have HIF := Lib.hid (idxf2 id qb A5 0 c5 [] w7 _ hrs6 (Nat.le_refl _) (by unfold maxLen at hcm5; omega) hq6)
            rw [hi0] at HIF
            clear hi0 hfn hX6 hcutA hrs6
            go_wp2_with fail
            refine HPU.out.mono ?_
            rintro e w7 ⟨rfl, rfl⟩
            go_wp2_with fail
            refine HIF.out.mono ?_
            rintro e w8 ⟨rfl, hb8⟩
            have HX8 := Lib.hid (HX6.out.grow hb8)
            have HL8 := Lib.hid (HLE.out w8 HX8.out.hm.ok.st)
            have HN := Lib.hid (HLP.out w8 HX8.out)
            clear hb8 hq6 hql6
            go_wp2_with fail
            refine HL8.out.mono ?_
            rintro e w9 ⟨rfl, rfl⟩
            go_wp2
            go_roundw
            case rel => exact ⟨k + 1, by omega, by go_num, HN.out⟩
            case measure => simp [intOf]; omega
          · have HPU := Lib.hid (peek_some g b5 vi5 vk5 ps5 f5 cnt5 W5 w.heap.size HX5.out.hm.ok.st (by omega))
            have HTOP := Lib.hid (fun m (hm : m < l5.length) hmin => first_top HX5.out.hm.ok.heap HP5.out.perm hm hmin)
            generalize hpp : ps5.getD 0 zp = p0 at *
            have HPP0 := Lib.hid hpp
            clear hpp
            obtain ⟨x0, y0⟩ := p0
            dsimp only at HPU
            go_wp2_with fail
            refine HPU.out.mono ?_
            rintro e w6 ⟨rfl, nq6, rfl⟩
            have HX6 := Lib.hid (HX5.out.drewN nq6)
            have hrs6 : RS pc 2 (W5.drewN nq6) W5.heap.size A5 l5n l5 := ⟨Reads.drewN hrs5.1 nq6, hrs5.2⟩
            have HFI := Lib.hid (first104 A5 l5n c5 l5 (W5.drewN nq6) _ hrs6 (Nat.le_refl _) (by unfold maxLen at hcm5; omega))
            clear hrs5 HPU
            generalize W5.drewN nq6 = W6 at *
            go_wp2_with fail
            refine HFI.out.mono ?_
            rintro e w7 ⟨i7, rfl, hF7, hb7⟩
            have hX7 := HX6.out.grow hb7
            rcases hF7 with ⟨h9, _⟩ | ⟨m, hm, rfl, hmin⟩
            · exact absurd h9 h0
            have htop := HTOP.out m (by rw [HLL5.out]; exact hm) (by rw [HLL5.out]; exact hmin)
            obtain ⟨A7, c7, hv7, hrs7, hc7, hd7⟩ := hX7.hm.rs
            injection hv7 with r1 r2 r3
            subst r1
            subst r3
            clear r2
            rw [HLL5.out] at hrs7
            obtain ⟨bb, oo, rfl, hbb, k0, k1⟩ := pair_at hrs7 hm
            rw [htop] at k0 k1
            dsimp only at k0 k1
            have hmi : (m : Int) < (l5n : Int) := by omega
            have HX7 := Lib.hid hX7
            clear hmin htop hrs7 hX7 hb7 hrs6
            have hcut := HX7.out
            have hX6 := hcut
            have hq6 := hX6.box.cell 0
            have hql6 := hX6.box.lt
            have hrow := hX6.hm.rs
            obtain ⟨A6, c6, hv6, hrs6, hc6, hd6⟩ := hX6.hm.rs
            injection hv6 with r1 r2 r3
            subst r1
            subst r3
            clear r2 hrow
            rw [HLL5.out] at hrs6
            have HLE := Lib.hid (fun W hst => len39 g b5 vi5 vk5 ps5 f5 cnt5 W w.heap.size hst)
            rw [hPL5] at HLE
            have HX6 := Lib.hid hX6
            have HLP : Hid (∀ wz, HX w wz g b5 vi5 vk5 (.slice (some ⟨bb, oo, none⟩) l5n c5) ps5 l5 f5 cnt5 qb id → HLoop w g (k + 1) (.slice (some ⟨bb, oo, none⟩) l5n c5) wz) := Lib.hid (fun wz hz => ⟨b5, vi5, vk5, ps5, l5, f5, cnt5, hz.hm, HP5.out, hc5, by rw [HLL5.out]; exact hl5⟩)
            rcases idx_cases l5 id with hi0 | ⟨i, hi0⟩
            · have hfn := not_there hX6.hm.ok.pos HP5.out.perm hi0
              have HPU := Lib.hid (key_none g b5 vi5 vk5 ps5 f5 cnt5 id w7 w.heap.size hX6.hm.ok.st hx1 hfn)
              have HIF := Lib.hid (idxf2 id qb (some ⟨bb, oo, none⟩) l5n c5 l5 w7 _ hrs6 (Nat.le_refl _) (by unfold maxLen at hcm5; omega) hq6)
              rw [hi0] at HIF
              clear hi0 hfn hX6 hcut hrs6
              go_wp2_with fail
              refine HPU.out.mono ?_
              rintro e w7 ⟨rfl, rfl⟩
              go_wp2_with fail
              refine HIF.out.mono ?_
              rintro e w8 ⟨rfl, hb8⟩
              have HX8 := Lib.hid (HX6.out.grow hb8)
              have HL8 := Lib.hid (HLE.out w8 HX8.out.hm.ok.st)
              have HN := Lib.hid (HLP.out w8 HX8.out)
              clear hb8 hq6 hql6
              go_wp2_with fail
              refine HL8.out.mono ?_
              rintro e w9 ⟨rfl, rfl⟩
              go_wp2
              go_roundw
              case rel => exact ⟨k + 1, by omega, by go_num, HN.out⟩
              case measure => simp [intOf]; omega
            · obtain ⟨hil, hid9, j, hj, hfj, hjl⟩ := there hX6.hm.ok.pos HP5.out.perm hi0
              have HPU := Lib.hid (key_some g b5 vi5 vk5 ps5 f5 cnt5 id j w7 w.heap.size hX6.hm.ok.st hx1 hfj hj)
              have HIF := Lib.hid (idxf2 id qb (some ⟨bb, oo, none⟩) l5n c5 l5 w7 _ hrs6 (Nat.le_refl _) (by unfold maxLen at hcm5; omega) hq6)
              rw [hi0] at HIF
              rw [hjl] at HPU
              rw [HLL5.out] at hil
              clear hi0 hX6 hcut hrs6 hid9 hj hfj hjl
              generalize hpp : l5.getD i zp = p0 at *
              have HPP0 := Lib.hid hpp
              clear hpp
              obtain ⟨x0, y0⟩ := p0
              dsimp only at HPU
              go_wp2_with fail
              refine HPU.out.mono ?_
              rintro e w7 ⟨rfl, rfl⟩
              go_wp2_with fail
              refine HIF.out.mono ?_
              rintro e w8 ⟨rfl, hb8⟩
              have hX8 := HX6.out.grow hb8
              have HL8 := Lib.hid (HLE.out w8 hX8.hm.ok.st)
              have HN := Lib.hid (HLP.out w8 hX8)
              obtain ⟨A7, c7, hv7, hrs7, hc7, hd7⟩ := hX8.hm.rs
              injection hv7 with r1 r2 r3
              subst r1
              subst r3
              clear r2
              rw [HLL5.out] at hrs7
              obtain ⟨bb', oo', hbo, hbb', k0', k1'⟩ := pair_at hrs7 hil
              injection hbo with hbo
              injection hbo with s1 s2
              subst s1
              subst s2
              rw [HPP0.out] at k0' k1'
              dsimp only at k0' k1'
              have hii : (i : Int) < (l5n : Int) := by omega
              clear hb8 hq6 hql6 hX8 hrs7
              go_wp2_with fail
              refine HL8.out.mono ?_
              rintro e w9 ⟨rfl, rfl⟩
              go_wp2
              go_roundw
              case rel => exact ⟨k + 1, by omega, by go_num, HN.out⟩
              case measure => simp [intOf]; omega
end Go.Proofs.Ytenhcpobncmedaa.HS
