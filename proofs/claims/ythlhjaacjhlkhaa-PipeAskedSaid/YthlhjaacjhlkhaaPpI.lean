/- The reference's pipes behind their pointer; contract of Turned. -/
import Derived.Test.YthlhjaacjhlkhaaPpH
namespace Go.Proofs.Ythlhjaacjhlkhaa
open Go.RowKit
set_option maxHeartbeats 400000
set_option linter.unusedVariables false
set_option linter.unusedSimpArgs false
structure Qe (w : World) (B q0 : Nat) (vL : Value) (F : Fs) : Prop where
  ob : Blk w q0 #[vL] 45
  row : Row w B 59 4 vL (allR F).length ((allR F).flatMap Pr.cells)
  lp : B ≤ q0
  ok : ∀ i p, i < 16 → F i = some p → p.ok
def hi_ (F : Fs) (i : Nat) : List Pr := hi F i
def QFt (q0 : Nat) (vL : Value) (k : Nat) : Prop := k = q0 ∨ vL.ownBlock = some k
def QGo (w : World) (B q0 : Nat) (vL : Value) (F' : Fs) (w' : World) : Prop :=
  ∃ v', Qe w' B q0 v' F' ∧ Fr (QFt q0 vL) w w' ∧ ∀ k, v'.ownBlock = some k → vL.ownBlock = some k ∨ w.heap.size ≤ k
theorem cells4 (L : List Pr) : (L.flatMap Pr.cells).length = L.length * 4 := flatR_len (cl := Pr.cells) (s := 4) (fun _ => rfl) L
namespace Qe
variable {w w' : World} {B q0 : Nat} {vL : Value} {F F' : Fs} {i : Nat} {p p' : Pp}
theorem lowF (h : Qe w B q0 vL F) : ∀ k, QFt q0 vL k → B ≤ k := fun k hk => by
  rcases hk with rfl | hk
  · exact h.lp
  · exact (h.row.lt k hk).1
theorem ltF (h : Qe w B q0 vL F) : ∀ k, QFt q0 vL k → k < w.heap.size := fun k hk => by
  rcases hk with rfl | hk
  · exact h.ob.lt
  · exact (h.row.lt k hk).2
theorem fr {S : Nat → Prop} (h : Qe w B q0 vL F) (hf : Fr S w w') (hS : ∀ k, QFt q0 vL k → ¬ S k) : Qe w' B q0 vL F := ⟨h.ob.fr hf (hS _ (.inl rfl)), h.row.fr hf (fun k hk => hS k (.inr hk)), h.lp, h.ok⟩
theorem grow (h : Qe w B q0 vL F) (hb : Below w.heap.size w w') : Qe w' B q0 vL F := h.fr (Fr.of_grow hb) (fun _ _ => id)
theorem refl (h : Qe w B q0 vL F) : QGo w B q0 vL F w := ⟨vL, h, Fr.refl _ _, fun k hk => .inl hk⟩
theorem grown (h : Qe w B q0 vL F) (hb : Below w.heap.size w w') : QGo w B q0 vL F w' := ⟨vL, h.grow hb, (Fr.of_grow hb).mono fun _ _ e => e.elim, fun k hk => .inl hk⟩
theorem rq {A : Option Addr} {n c : Nat} (h : Qe w B q0 (.slice A n c) F) : n = (allR F).length ∧ RQ w w.heap.size A n F := by
  obtain ⟨A', c', e, _, _⟩ := h.row.shape
  injection e with e1 e2 e3
  subst e2
  exact ⟨rfl, h.row.reads, rfl⟩
/-- A new list. -/
theorem renew (h : Qe w B q0 vL F) {w9 : World} {A9 : Option Addr} {n9 c9 : Nat} (hB : B ≤ w.heap.size) (hb : Below w.heap.size w w9) (hr : Row w9 w.heap.size 59 4 (.slice A9 n9 c9) n9 ((allR F').flatMap Pr.cells)) (hok : ∀ i p, i < 16 → F' i = some p → p.ok) :
    QGo w B q0 vL F' (w9.setCell ⟨q0, 0, none⟩ (.slice A9 n9 c9)) := by
  have hn : n9 = (allR F').length := by have := hr.1; rw [cells4] at this; omega
  subst hn
  have hlt := h.ob.lt
  have hf : Fr (QFt q0 vL) w (w9.setCell ⟨q0, 0, none⟩ (.slice A9 (allR F').length c9)) := Fr.setCell (S := QFt q0 vL) ((Fr.of_grow hb).mono (fun _ _ e => e.elim)) (p := ⟨q0, 0, none⟩) (fun _ => .inl rfl) _
  refine ⟨.slice A9 (allR F').length c9, ⟨?_, ?_, h.lp, hok⟩, hf, fun k hk => .inr (hr.lt k hk).1⟩
  · have := (h.ob.fr (Fr.of_grow hb) id).set 0 (.slice A9 (allR F').length c9)
    simpa using this
  · exact (hr.base_le hB).setCell (p := ⟨q0, 0, none⟩) (fun e => by have := (hr.lt _ e).1; simp at this; omega) _
/-- One cell of one record is set. -/
theorem set (h : Qe w B q0 vL F) (hi : i < 16) (hp : F i = some p) : ∃ g o c, vL = .slice (some ⟨g, o, none⟩) (allR F).length c ∧ g < w.heap.size ∧ g ≠ q0 ∧ (∀ j, w.frozen? ⟨g, j, none⟩ = false) ∧
    ∀ (j : Nat) (u : Value), j < 4 → (prOf i p).cells.set j u = (prOf i p').cells → p'.ok → Qe (w.setCell ⟨g, o + (lo F i).length * 4 + j, none⟩ u) B q0 vL (put F i (some p')) ∧ Fr (QFt q0 vL) w (w.setCell ⟨g, o + (lo F i).length * 4 + j, none⟩ u) := by
  obtain ⟨p1, p2, p3⟩ := place_some hi hp
  rcases h.row.2 with ⟨_, h0⟩ | ⟨g, o, c, cur, rfl, hbg, hg, hnc, hcm, hcs, hx⟩
  · omega
  have hB : Blk w g cur 59 := hg
  have hgq : g ≠ q0 := pp_blk_ne hB h.ob (by decide)
  refine ⟨g, o, c, rfl, hB.lt, hgq, fun j => hB.free j, fun j u hj hu hok => ?_⟩
  have hlen : (allR (put F i (some p'))).length = (allR F).length := by rw [all_put p' hi, all_some hi hp]; simp
  have hst := h.row.stored (j := (lo F i).length * 4 + j) (by omega) u
  have hset : ((allR F).flatMap Pr.cells).set ((lo F i).length * 4 + j) u = (allR (put F i (some p'))).flatMap Pr.cells := by
    rw [all_put p' hi, all_some hi hp, List.flatMap_append, List.flatMap_append, List.set_append_right _ _ (by rw [cells4]; omega), cells4]
    congr 1
    rw [show (lo F i).length * 4 + j - (lo F i).length * 4 = j by omega, List.flatMap_cons, List.flatMap_cons, List.set_append_left _ _ (by show j < 4; exact hj), hu]
  rw [hset, show o + ((lo F i).length * 4 + j) = o + (lo F i).length * 4 + j by omega] at hst
  refine ⟨⟨h.ob.set_other (p := ⟨g, o + (lo F i).length * 4 + j, none⟩) hgq _, by rw [hlen]; exact hst, h.lp, fun a q ha hq => ?_⟩, (Fr.refl _ w).setCell (p := ⟨g, o + (lo F i).length * 4 + j, none⟩) (fun _ => .inr rfl) _⟩
  by_cases e : a = i
  · subst e; rw [put_same] at hq; injection hq with hq; subst hq; exact hok
  · rw [put_other F e] at hq; exact h.ok a q ha hq
end Qe
theorem QGo.comp {w w1 w2 : World} {B q0 : Nat} {vL v1 : Value} {F2 : Fs} (f1 : Fr (QFt q0 vL) w w1) (o1 : ∀ k, v1.ownBlock = some k → vL.ownBlock = some k ∨ w.heap.size ≤ k) (h2 : QGo w1 B q0 v1 F2 w2) : QGo w B q0 vL F2 w2 := by
  obtain ⟨v2, m2, f2, o2⟩ := h2
  refine ⟨v2, m2, f1.trans f2 (fun k hk hF => ?_), fun k hk => ?_⟩
  · rcases hF with e | e
    · exact .inl e
    · rcases o1 k e with e | e
      · exact .inr e
      · omega
  · rcases o2 k hk with e | e
    · exact o1 k e
    · have := f1.size; exact .inr (by omega)
theorem QGo.trans {w w1 w2 : World} {B q0 : Nat} {vL : Value} {F1 F2 : Fs} (h1 : QGo w B q0 vL F1 w1) (h2 : ∀ v1, Qe w1 B q0 v1 F1 → QGo w1 B q0 v1 F2 w2) : QGo w B q0 vL F2 w2 := by
  obtain ⟨v1, m1, f1, o1⟩ := h1
  exact QGo.comp f1 o1 (h2 v1 m1)
theorem QGo.grow {w w1 w2 : World} {B q0 : Nat} {vL : Value} {F1 : Fs} (h1 : QGo w B q0 vL F1 w1) (hb : Below w1.heap.size w1 w2) : QGo w B q0 vL F1 w2 := h1.trans fun v1 m1 => m1.grown hb
theorem Qe.go {w w' : World} {B q0 : Nat} {vL : Value} {F' : Fs} (h : Qe w' B q0 vL F' ∧ Fr (QFt q0 vL) w w') : QGo w B q0 vL F' w' := ⟨vL, h.1, h.2, fun k hk => .inl hk⟩
/-- The parts of a list below and above a place. -/
theorem Qe.parts {w : World} {B q0 : Nat} {A : Option Addr} {n c i : Nat} {F : Fs} {p : Pp} (h : Qe w B q0 (.slice A n c) F) (hi : i < 16) (hp : F i = some p) :
    Row w B 59 4 (.slice A (lo F i).length c) (lo F i).length ((lo F i).flatMap Pr.cells) ∧ Row w B 59 4 (.slice (if c = (lo F i).length + 1 then A else A.map (·.add (((lo F i).length + 1) * 4))) (n - ((lo F i).length + 1)) (c - ((lo F i).length + 1))) (n - ((lo F i).length + 1)) ((hi_ F i).flatMap Pr.cells) := by
  obtain ⟨hn, _⟩ := h.rq
  subst hn
  have hs := all_some hi hp
  have hl : (allR F).length = (lo F i).length + 1 + (hi_ F i).length := by rw [hs]; simp [hi_]; omega
  have h1 := h.row.take (k := (lo F i).length) (by omega)
  have h2 := h.row.cut (k := (lo F i).length + 1) (by omega)
  have e1 : ((allR F).flatMap Pr.cells).take ((lo F i).length * 4) = (lo F i).flatMap Pr.cells := by
    rw [hs, List.flatMap_append, List.take_left' (cells4 _)]
  have e2 : ((allR F).flatMap Pr.cells).drop (((lo F i).length + 1) * 4) = (hi_ F i).flatMap Pr.cells := by
    rw [hs, List.flatMap_append, List.flatMap_cons, ← List.append_assoc, List.drop_left' (by rw [List.length_append, cells4]; show _ + 4 = _; omega)]
    rfl
  rw [e1] at h1
  rw [e2] at h2
  exact ⟨h1, h2⟩
theorem rq_one (L : List Pr) : ∀ u ∈ L.flatMap Pr.cells, u.oneCell' = true := by
  intro u hu
  obtain ⟨x, _, hx⟩ := List.mem_flatMap.1 hu
  simp only [Pr.cells, List.mem_cons, List.not_mem_nil, or_false] at hx
  rcases hx with rfl | rfl | rfl | rfl <;> rfl
theorem info59 : (Try.prog.info? 59).map (fun i => (i.zero, i.size, i.bytes)) = some (some (.agg #[.int .i64 0, .int .i64 0, .int .i64 0, .string ByteArray.empty]), 4, 40) := by kernel_rfl
def RetQ (w : World) (B q0 : Nat) (vL : Value) (x : Int) (F' : Fs) (e : Ending) (w' : World) : Prop := e = .returned (.int .i64 x) ∧ QGo w B q0 vL F' w'
section
variable {w : World} {B q0 : Nat} {vL : Value} {F : Fs}
set_option maxHeartbeats 2000000 in
set_option maxRecDepth 100000 in
theorem turned_any (h : Qe w B q0 vL F) (hB : B ≤ w.heap.size) (id e by_ : Int) (hby : by_ = 1 ∨ by_ = -1) : Calls Try.prog 28 #[.pointer (some ⟨q0, 0, none⟩), .int .i64 id, .int .i64 e, .int .i64 by_] w (RetQ w B q0 vL (turnE F id e by_) (turnF F id e by_)) := by
  obtain ⟨A, c, rfl, hnc, hcm⟩ := h.row.shape
  obtain ⟨hn, hrq⟩ := h.rq
  have H := Lib.hid h
  have HW := Lib.hid (who_any w w.heap.size A (allR F).length c F id e hrq (Nat.le_refl _))
  have hc0 := h.ob.cell 0
  have hlq := h.ob.lt
  dsimp at hc0
  by_cases h0 : errE F id e = 0
  · obtain ⟨i, p, hi, rfl, hp, he, hz, ha⟩ := errE_zero h0
    have HV : Hid (whoV F ((i : Int) + 1) e = .tuple #[.int .i64 ((lo F i).length : Nat), .int .i64 (p.at_ e), .int .i64 0]) := Lib.hid (by unfold whoV; rw [if_neg (by rw [h0]; simp), ha, show ((i : Int) + 1 - 1).toNat = i by omega])
    rw [HV.out] at HW
    obtain ⟨k1, k2, k3, k4, k5, k6⟩ := h.ok i p hi hp
    have hat : 1 ≤ p.at_ e ∧ p.at_ e ≤ 64 := by rcases he with rfl | rfl <;> simp [Pp.at_] at hz ⊢ <;> omega
    rcases turnE_ok (by_ := by_) hi hp h0 with ⟨hh, h1, h2⟩ | ⟨hh, h1, h2⟩
    · rw [h1, h2]
      have hd : decide (64 < p.at_ e + by_) = true := by simpa using hh
      clear h hp hn hrq h0 h1 h2 ha
      generalize p.at_ e = x at *
      go_enter Try.func28, Try.ntmps28
      go_wp2_with fail
      refine HW.out.mono ?_
      rintro y w1 ⟨rfl, hb1⟩
      go_wp2
      go_ret
      exact ⟨rfl, H.out.grown hb1⟩
    · rw [h1, h2]
      rcases he with rfl | rfl
      · have HOK : Hid ((p.add 0 by_).ok) := Lib.hid (by unfold Pp.add; simp; refine ⟨?_, ?_, ?_, ?_, k5, k6⟩ <;> dsimp only [Pp.at_] at hat hh <;> simp at hat hh ⊢ <;> omega)
        have HPA : Hid (p.add 0 by_ = { p with r := p.r + by_ }) := Lib.hid (by unfold Pp.add; simp)
        have hd : decide (64 < p.r + by_) = false := by simpa [Pp.at_] using hh
        have HF := Lib.hid hp
        dsimp [Pp.at_] at HW hat
        obtain ⟨q1, q2, q3⟩ := place_some hi hp
        have HRQ := Lib.hid hrq
        have hN16 := hrq.len.2
        obtain ⟨N, hN⟩ : ∃ N, (allR F).length = N := ⟨_, rfl⟩
        rw [hN] at HW hc0 HRQ hN16 q2
        obtain ⟨z, hzz⟩ : ∃ z, (lo F i).length = z := ⟨_, rfl⟩
        rw [hzz] at HW q2 q3
        have hzn : (z : Int) < N := by omega
        clear h hn hrq h0 h1 h2 ha hh hz q1
        go_enter Try.func28, Try.ntmps28
        go_wp2_with fail
        refine HW.out.mono ?_
        rintro y w1 ⟨rfl, hb1⟩
        have H1 := H.out.grow hb1
        obtain ⟨g, o, c', hv, hgl, hgq, hfz, hput⟩ := H1.set (p' := p.add 0 by_) hi HF.out
        injection hv with hv1 hv2 hv3
        subst hv1; subst hv3
        have hqg : q0 ≠ g := Ne.symm hgq
        obtain ⟨b2, o2, e2, hb2, -, d1, d2, -⟩ := (HRQ.out.below' hb1 (Nat.le_refl _)).at_ q2
        injection e2 with e2
        injection e2 with e3 e4
        subst e3; subst e4
        rw [q3] at d1 d2
        dsimp only [prOf] at d1 d2
        have hc1 := H1.ob.cell 0
        have hl1 := H1.ob.lt
        rw [hN] at hc1
        dsimp at hc1
        rw [hzz] at hput
        have hf1 := hfz (o + z * 4 + 1)
        have HU := Lib.hid (hput 1 (.int .i64 (p.r + by_)) (by decide) (by rw [HPA.out]; rfl) HOK.out)
        have HB1 := Lib.hid hb1
        clear H1 hput hfz hc0 hlq hb1 HRQ HW
        go_wp2_with fail
        have HBP : Hid (p.add 0 by_ = { p with r := p.r + by_ }) := HPA
        rw [HPA.out] at HU
        have U := HU.out
        have hNN : (allR (put F i (some { p with r := p.r + by_ }))).length = N := by rw [all_put _ hi, ← hN, all_some hi HF.out]; simp
        have hLL : (lo (put F i (some { p with r := p.r + by_ })) i).length = z := by rw [lo_put]; exact hzz
        obtain ⟨-, q2', q3'⟩ := place_some hi (put_same F i (some { p with r := p.r + by_ }))
        rw [hLL] at q2' q3'
        obtain ⟨hn', hrq'⟩ := U.1.rq
        obtain ⟨b2, o2, e2, hb2', -, y1, y2, -⟩ := hrq'.at_ (k := z) (by omega)
        injection e2 with e2
        injection e2 with e3 e4
        subst e3; subst e4
        rw [q3'] at y1 y2
        dsimp only [prOf] at y1 y2
        have x0 := U.1.ob.cell 0
        have xl := U.1.ob.lt
        rw [hN] at x0
        dsimp at x0
        have hN2 := hN
        have HNN := Lib.hid hNN
        have HLL := Lib.hid hLL
        have HN := Lib.hid hN
        clear hrq' hn' q2' q3' hNN hLL U d1 d2 hc1 hl1 hf1 hN2
        generalize (w1.setCell ⟨g, o + z * 4 + 1, none⟩ (.int .i64 (p.r + by_))) = w2 at *
        have hgl2 : g < w2.heap.size := hb2'
        by_cases hs : p.r + by_ + p.w = 0
        · have HAF : Hid (afterP (p.add 0 by_) = none) := Lib.hid (by rw [HPA.out]; unfold afterP; dsimp only; rw [if_pos (by omega)])
          have hsd : (p.r + by_ + p.w == 0) = true := by simpa using hs
          obtain ⟨i0, ii, hz0, hz1, hz2⟩ := info_parts info59
          refine wp_region_near w2.heap.size (by kernel_rfl) (by kernel_rfl) ?_
          repeat (go_big_quiet_step (fail))
          refine wpQuiet_nil ?_
          intro w3 hb3
          clear hs hsd
          have U3 := HU.out.1.grow hb3
          obtain ⟨r1, r2⟩ := U3.parts hi (put_same F i (some { p with r := p.r + by_ }))
          rw [HLL.out] at r1 r2
          have x0' := (hb3.cell (p := ⟨q0, 0, none⟩) xl).trans x0
          have xl3 : q0 < w3.heap.size := by have := hb3.size; omega
          have xf3 := U3.ob.free 0
          rw [HN.out] at r2
          have hnc' : N ≤ c := by rw [← HN.out]; exact hnc
          have hN1 : z + 1 ≤ N := by omega
          have RB0 : Hid (Row ((w3.alloc (.cells #[] 59)).drew) w3.heap.size 59 4 (.slice (some ⟨w3.heap.size, 0, none⟩) 0 0) 0 []) := Lib.hid ⟨rfl, .inr ⟨w3.heap.size, 0, 0, #[], rfl, Nat.le_refl _, (Blk.new w3 #[] 59).drew, Nat.le_refl _, by simp, by simp, fun j u hu => by simp at hu⟩⟩
          have RL : Hid (Reads ((w3.alloc (.cells #[] 59)).drew) w3.heap.size 4 (some ⟨g, o, none⟩) z ((lo (put F i (some { p with r := p.r + by_ })) i).flatMap Pr.cells)) := Lib.hid ((r1.reads.alloc (Nat.le_refl _) _).drew)
          have HB9 : Hid (∀ w9, ((w3.alloc (.cells #[] 59)).drew).grownBy w9 (Value.slice (some ⟨w3.heap.size, 0, none⟩) 0 0).ownBlock → Below w3.heap.size w3 w9) := Lib.hid (fun w9 hg9 => (((Below.refl w3.heap.size w3).alloc (Nat.le_refl _) _).drew).grown hg9 (by simp) (fun k hk => by simp [Value.ownBlock] at hk; omega))
          have HOB : Hid (∀ w', Below w3.heap.size w3 w' → Blk w' q0 #[.slice (some ⟨g, o, none⟩) (allR F).length c] 45) := Lib.hid (fun w' hb => U3.ob.fr (Fr.of_grow hb) id)
          have HFIN : Hid (∀ A10 c10 w10, Below w3.heap.size w3 w10 → Row w10 w3.heap.size 59 4 (.slice A10 (0 + z + (N - (z + 1))) c10) (0 + z + (N - (z + 1))) ([] ++ (lo (put F i (some { p with r := p.r + by_ })) i).flatMap Pr.cells ++ (hi_ (put F i (some { p with r := p.r + by_ })) i).flatMap Pr.cells) → QGo w B q0 (.slice (some ⟨g, o, none⟩) (allR F).length c) (put F i (afterP (p.add 0 by_))) (w10.setCell ⟨q0, 0, none⟩ (.slice A10 (0 + z + (N - (z + 1))) c10))) := Lib.hid (fun A10 c10 w10 hb10 hr10 => by
            rw [HAF.out]
            refine QGo.comp ((Fr.of_grow HB1.out).mono fun _ _ e => e.elim) (fun k hk => .inl hk) (((Qe.go HU.out).grow hb3).trans fun v1 m1 => ?_)
            refine m1.renew (Nat.le_trans hB (Nat.le_trans HB1.out.size (Nat.le_trans HU.out.2.size hb3.size))) hb10 ?_ (fun a q ha hq => ?_)
            · rw [all_del hi, List.flatMap_append]
              rw [lo_put] at hr10
              unfold hi_ at hr10
              rw [hi_put, List.nil_append] at hr10
              exact hr10
            · by_cases e : a = i
              · subst e; rw [put_same] at hq; cases hq
              · rw [put_other F e] at hq; exact H.out.ok a q ha hq)
          have hzc1 : (z : Int) ≤ c := by omega
          have hzc2 : (z : Int) + 1 ≤ N := by omega
          have hzc3 : (z : Int) + 1 ≤ c := by omega
          have hzc4 : z ≤ c := by omega
          have hw1 : IntKind.i64.wrap ((z : Int) + 1) = (z : Int) + 1 := IntWalk.i64_in _ (by omega)
          have ht1 : ((z : Int) + 1).toNat = z + 1 := by omega
          have h01 : (0 : Int) ≤ (z : Int) + 1 := by omega
          have hzz1 : (z : Int) ≤ (z : Int) + 1 := by omega
          have hl9 := cells4 (lo (put F i (some { p with r := p.r + by_ })) i)
          by_cases hcz : c = z + 1
          · rw [if_pos hcz] at r2
            subst hcz
            obtain rfl : N = z + 1 := by omega
            rw [Nat.sub_self] at r2
            have HFIN1 : Hid (∀ A10 c10 w10, Below w3.heap.size w3 w10 → Row w10 w3.heap.size 59 4 (.slice A10 (0 + z + 0) c10) (0 + z + 0) ([] ++ (lo (put F i (some { p with r := p.r + by_ })) i).flatMap Pr.cells ++ (hi_ (put F i (some { p with r := p.r + by_ })) i).flatMap Pr.cells) → QGo w B q0 (.slice (some ⟨g, o, none⟩) (z + 1) (z + 1)) (put F i (afterP (p.add 0 by_))) (w10.setCell ⟨q0, 0, none⟩ (.slice A10 z c10))) := Lib.hid (fun A10 c10 w10 hb hr => by
              have hq := HFIN.out A10 c10 w10 hb (by rw [Nat.sub_self]; exact hr)
              rw [Nat.sub_self, Nat.add_zero, Nat.zero_add, HN.out] at hq
              exact hq)
            have RH : Hid (∀ w9, Below w3.heap.size w3 w9 → Reads w9 w3.heap.size 4 (some ⟨g, o, none⟩) 0 ((hi_ (put F i (some { p with r := p.r + by_ })) i).flatMap Pr.cells)) := Lib.hid (fun w9 hb => r2.reads.below' hb (Nat.le_refl _))
            clear r1 r2 U3
            go_upto_region 10 with (fail)
            go_region_law (first | (refine step_append_row rfl (.tmp 70) (.tmp 75) 45 rfl w3.heap.size 59 i0 (.agg #[.int .i64 0, .int .i64 0, .int .i64 0, .string ByteArray.empty]) 4 40 Try.underlying45 ii hz0 hz1 hz2 rfl (by decide) (.slice (some ⟨w3.heap.size, 0, none⟩) 0 0) 0 [] (by simp [Act.eval, Act.put]) RB0.out w3.heap.size (some ⟨g, o, none⟩) z (z + 1) ((lo (put F i (some { p with r := p.r + by_ })) i).flatMap Pr.cells) (by simp [Act.eval, Act.put]) RL.out (rq_one _) (by unfold maxLen; omega) (by omega) (by simp) ?_; intro A9 c9 w9 hr9 hg9 ho9; have hb9 := HB9.out w9 hg9; have HR9 := Lib.hid hr9; have HX9 := Lib.hid hb9; have k0 := (hb9.cell (p := ⟨q0, 0, none⟩) xl3).trans x0'; have kl9 := Nat.lt_of_lt_of_le xl3 hb9.size; have HH9 := Lib.hid (RH.out w9 hb9); clear hr9 hg9 ho9 hb9) | (refine step_append_row rfl (.tmp 76) (.tmp 82) 45 rfl w3.heap.size 59 i0 (.agg #[.int .i64 0, .int .i64 0, .int .i64 0, .string ByteArray.empty]) 4 40 Try.underlying45 ii hz0 hz1 hz2 rfl (by decide) (.slice A9 (0 + z) c9) (0 + z) ([] ++ (lo (put F i (some { p with r := p.r + by_ })) i).flatMap Pr.cells) (by simp [Act.eval, Act.put]) HR9.out w3.heap.size (some ⟨g, o, none⟩) 0 0 ((hi_ (put F i (some { p with r := p.r + by_ })) i).flatMap Pr.cells) (by simp [Act.eval, Act.put]) HH9.out (rq_one _) (by unfold maxLen; omega) (by omega) HX9.out.size ?_; intro A10 c10 w10 hr10 hg10 ho10; have hb10 := HX9.out.grown hg10 HX9.out.size (fun k hk => (HR9.out.lt k hk).1); have kb10 := HOB.out w10 hb10; have k100 := kb10.cell 0; have kl10 := kb10.lt; have kf10 := kb10.free 0; have HP10 := Lib.hid (HFIN1.out A10 c10 w10 hb10 hr10); clear hr10 hg10 ho10 hb10 kb10) | fail)
            all_goals
              go_wp2
              go_ret
              exact ⟨rfl, HP10.out⟩
          · rw [if_neg hcz] at r2
            simp only [Option.map_some, add_plain] at r2
            have RH : Hid (∀ w9, Below w3.heap.size w3 w9 → Reads w9 w3.heap.size 4 (some ⟨g, o + (z + 1) * 4, none⟩) (N - (z + 1)) ((hi_ (put F i (some { p with r := p.r + by_ })) i).flatMap Pr.cells)) := Lib.hid (fun w9 hb => r2.reads.below' hb (Nat.le_refl _))
            clear r1 r2 U3
            go_upto_region 10 with (fail)
            go_region_law (first | (refine step_append_row rfl (.tmp 70) (.tmp 75) 45 rfl w3.heap.size 59 i0 (.agg #[.int .i64 0, .int .i64 0, .int .i64 0, .string ByteArray.empty]) 4 40 Try.underlying45 ii hz0 hz1 hz2 rfl (by decide) (.slice (some ⟨w3.heap.size, 0, none⟩) 0 0) 0 [] (by simp [Act.eval, Act.put]) RB0.out w3.heap.size (some ⟨g, o, none⟩) z c ((lo (put F i (some { p with r := p.r + by_ })) i).flatMap Pr.cells) (by simp [Act.eval, Act.put]) RL.out (rq_one _) (by unfold maxLen; omega) (by omega) (by simp) ?_; intro A9 c9 w9 hr9 hg9 ho9; have hb9 := HB9.out w9 hg9; have HR9 := Lib.hid hr9; have HX9 := Lib.hid hb9; have k0 := (hb9.cell (p := ⟨q0, 0, none⟩) xl3).trans x0'; have kl9 := Nat.lt_of_lt_of_le xl3 hb9.size; have HH9 := Lib.hid (RH.out w9 hb9); clear hr9 hg9 ho9 hb9) | (refine step_append_row rfl (.tmp 76) (.tmp 82) 45 rfl w3.heap.size 59 i0 (.agg #[.int .i64 0, .int .i64 0, .int .i64 0, .string ByteArray.empty]) 4 40 Try.underlying45 ii hz0 hz1 hz2 rfl (by decide) (.slice A9 (0 + z) c9) (0 + z) ([] ++ (lo (put F i (some { p with r := p.r + by_ })) i).flatMap Pr.cells) (by simp [Act.eval, Act.put]) HR9.out w3.heap.size (some ⟨g, o + (z + 1) * 4, none⟩) (N - (z + 1)) (c - (z + 1)) ((hi_ (put F i (some { p with r := p.r + by_ })) i).flatMap Pr.cells) (by simp [Act.eval, Act.put]) HH9.out (rq_one _) (by unfold maxLen; omega) (by omega) HX9.out.size ?_; intro A10 c10 w10 hr10 hg10 ho10; have hb10 := HX9.out.grown hg10 HX9.out.size (fun k hk => (HR9.out.lt k hk).1); have kb10 := HOB.out w10 hb10; have k100 := kb10.cell 0; have kl10 := kb10.lt; have kf10 := kb10.free 0; have HP10 := HFIN.out A10 c10 w10 hb10 hr10; rw [Nat.zero_add, HN.out] at HP10; have HP10 := Lib.hid HP10; clear hr10 hg10 ho10 hb10 kb10) | fail)
            all_goals
              go_wp2
              go_ret
              exact ⟨rfl, HP10.out⟩
        · have HAF : Hid (afterP (p.add 0 by_) = some { p with r := p.r + by_ }) := Lib.hid (by rw [HPA.out]; unfold afterP; dsimp only; rw [if_neg (by omega)])
          have hsd : (p.r + by_ + p.w == 0) = false := by simpa using hs
          refine wp_region_near w2.heap.size (by kernel_rfl) (by kernel_rfl) ?_
          repeat (go_big_quiet_step (fail))
          refine wpQuiet_nil ?_
          intro w3 hb3
          have HFIN : Hid (QGo w B q0 (.slice (some ⟨g, o, none⟩) (allR F).length c) (put F i (afterP (p.add 0 by_))) w3) := Lib.hid (by
            rw [HAF.out]
            exact QGo.comp ((Fr.of_grow HB1.out).mono fun _ _ e => e.elim) (fun k hk => .inl hk) ((Qe.go HU.out).grow hb3))
          go_wp2
          go_ret
          exact ⟨rfl, HFIN.out⟩
      · have HOK : Hid ((p.add 1 by_).ok) := Lib.hid (by unfold Pp.add; simp; refine ⟨?_, ?_, ?_, ?_, k5, k6⟩ <;> dsimp only [Pp.at_] at hat hh <;> simp at hat hh ⊢ <;> omega)
        have HPA : Hid (p.add 1 by_ = { p with w := p.w + by_ }) := Lib.hid (by unfold Pp.add; simp)
        have hd : decide (64 < p.w + by_) = false := by simpa [Pp.at_] using hh
        have HF := Lib.hid hp
        dsimp [Pp.at_] at HW hat
        obtain ⟨q1, q2, q3⟩ := place_some hi hp
        have HRQ := Lib.hid hrq
        have hN16 := hrq.len.2
        obtain ⟨N, hN⟩ : ∃ N, (allR F).length = N := ⟨_, rfl⟩
        rw [hN] at HW hc0 HRQ hN16 q2
        obtain ⟨z, hzz⟩ : ∃ z, (lo F i).length = z := ⟨_, rfl⟩
        rw [hzz] at HW q2 q3
        have hzn : (z : Int) < N := by omega
        clear h hn hrq h0 h1 h2 ha hh hz q1
        go_enter Try.func28, Try.ntmps28
        go_wp2_with fail
        refine HW.out.mono ?_
        rintro y w1 ⟨rfl, hb1⟩
        have H1 := H.out.grow hb1
        obtain ⟨g, o, c', hv, hgl, hgq, hfz, hput⟩ := H1.set (p' := p.add 1 by_) hi HF.out
        injection hv with hv1 hv2 hv3
        subst hv1; subst hv3
        have hqg : q0 ≠ g := Ne.symm hgq
        obtain ⟨b2, o2, e2, hb2, -, d1, d2, -⟩ := (HRQ.out.below' hb1 (Nat.le_refl _)).at_ q2
        injection e2 with e2
        injection e2 with e3 e4
        subst e3; subst e4
        rw [q3] at d1 d2
        dsimp only [prOf] at d1 d2
        have hc1 := H1.ob.cell 0
        have hl1 := H1.ob.lt
        rw [hN] at hc1
        dsimp at hc1
        rw [hzz] at hput
        have hf1 := hfz (o + z * 4 + 2)
        have HU := Lib.hid (hput 2 (.int .i64 (p.w + by_)) (by decide) (by rw [HPA.out]; rfl) HOK.out)
        have HB1 := Lib.hid hb1
        clear H1 hput hfz hc0 hlq hb1 HRQ HW
        go_wp2_with fail
        have HBP : Hid (p.add 1 by_ = { p with w := p.w + by_ }) := HPA
        rw [HPA.out] at HU
        have U := HU.out
        have hNN : (allR (put F i (some { p with w := p.w + by_ }))).length = N := by rw [all_put _ hi, ← hN, all_some hi HF.out]; simp
        have hLL : (lo (put F i (some { p with w := p.w + by_ })) i).length = z := by rw [lo_put]; exact hzz
        obtain ⟨-, q2', q3'⟩ := place_some hi (put_same F i (some { p with w := p.w + by_ }))
        rw [hLL] at q2' q3'
        obtain ⟨hn', hrq'⟩ := U.1.rq
        obtain ⟨b2, o2, e2, hb2', -, y1, y2, -⟩ := hrq'.at_ (k := z) (by omega)
        injection e2 with e2
        injection e2 with e3 e4
        subst e3; subst e4
        rw [q3'] at y1 y2
        dsimp only [prOf] at y1 y2
        have x0 := U.1.ob.cell 0
        have xl := U.1.ob.lt
        rw [hN] at x0
        dsimp at x0
        have hN2 := hN
        have HNN := Lib.hid hNN
        have HLL := Lib.hid hLL
        have HN := Lib.hid hN
        clear hrq' hn' q2' q3' hNN hLL U d1 d2 hc1 hl1 hf1 hN2
        generalize (w1.setCell ⟨g, o + z * 4 + 2, none⟩ (.int .i64 (p.w + by_))) = w2 at *
        have hgl2 : g < w2.heap.size := hb2'
        by_cases hs : p.r + (p.w + by_) = 0
        · have HAF : Hid (afterP (p.add 1 by_) = none) := Lib.hid (by rw [HPA.out]; unfold afterP; dsimp only; rw [if_pos (by omega)])
          have hsd : (p.r + (p.w + by_) == 0) = true := by simpa using hs
          obtain ⟨i0, ii, hz0, hz1, hz2⟩ := info_parts info59
          refine wp_region_near w2.heap.size (by kernel_rfl) (by kernel_rfl) ?_
          repeat (go_big_quiet_step (fail))
          refine wpQuiet_nil ?_
          intro w3 hb3
          clear hs hsd
          have U3 := HU.out.1.grow hb3
          obtain ⟨r1, r2⟩ := U3.parts hi (put_same F i (some { p with w := p.w + by_ }))
          rw [HLL.out] at r1 r2
          have x0' := (hb3.cell (p := ⟨q0, 0, none⟩) xl).trans x0
          have xl3 : q0 < w3.heap.size := by have := hb3.size; omega
          have xf3 := U3.ob.free 0
          rw [HN.out] at r2
          have hnc' : N ≤ c := by rw [← HN.out]; exact hnc
          have hN1 : z + 1 ≤ N := by omega
          have RB0 : Hid (Row ((w3.alloc (.cells #[] 59)).drew) w3.heap.size 59 4 (.slice (some ⟨w3.heap.size, 0, none⟩) 0 0) 0 []) := Lib.hid ⟨rfl, .inr ⟨w3.heap.size, 0, 0, #[], rfl, Nat.le_refl _, (Blk.new w3 #[] 59).drew, Nat.le_refl _, by simp, by simp, fun j u hu => by simp at hu⟩⟩
          have RL : Hid (Reads ((w3.alloc (.cells #[] 59)).drew) w3.heap.size 4 (some ⟨g, o, none⟩) z ((lo (put F i (some { p with w := p.w + by_ })) i).flatMap Pr.cells)) := Lib.hid ((r1.reads.alloc (Nat.le_refl _) _).drew)
          have HB9 : Hid (∀ w9, ((w3.alloc (.cells #[] 59)).drew).grownBy w9 (Value.slice (some ⟨w3.heap.size, 0, none⟩) 0 0).ownBlock → Below w3.heap.size w3 w9) := Lib.hid (fun w9 hg9 => (((Below.refl w3.heap.size w3).alloc (Nat.le_refl _) _).drew).grown hg9 (by simp) (fun k hk => by simp [Value.ownBlock] at hk; omega))
          have HOB : Hid (∀ w', Below w3.heap.size w3 w' → Blk w' q0 #[.slice (some ⟨g, o, none⟩) (allR F).length c] 45) := Lib.hid (fun w' hb => U3.ob.fr (Fr.of_grow hb) id)
          have HFIN : Hid (∀ A10 c10 w10, Below w3.heap.size w3 w10 → Row w10 w3.heap.size 59 4 (.slice A10 (0 + z + (N - (z + 1))) c10) (0 + z + (N - (z + 1))) ([] ++ (lo (put F i (some { p with w := p.w + by_ })) i).flatMap Pr.cells ++ (hi_ (put F i (some { p with w := p.w + by_ })) i).flatMap Pr.cells) → QGo w B q0 (.slice (some ⟨g, o, none⟩) (allR F).length c) (put F i (afterP (p.add 1 by_))) (w10.setCell ⟨q0, 0, none⟩ (.slice A10 (0 + z + (N - (z + 1))) c10))) := Lib.hid (fun A10 c10 w10 hb10 hr10 => by
            rw [HAF.out]
            refine QGo.comp ((Fr.of_grow HB1.out).mono fun _ _ e => e.elim) (fun k hk => .inl hk) (((Qe.go HU.out).grow hb3).trans fun v1 m1 => ?_)
            refine m1.renew (Nat.le_trans hB (Nat.le_trans HB1.out.size (Nat.le_trans HU.out.2.size hb3.size))) hb10 ?_ (fun a q ha hq => ?_)
            · rw [all_del hi, List.flatMap_append]
              rw [lo_put] at hr10
              unfold hi_ at hr10
              rw [hi_put, List.nil_append] at hr10
              exact hr10
            · by_cases e : a = i
              · subst e; rw [put_same] at hq; cases hq
              · rw [put_other F e] at hq; exact H.out.ok a q ha hq)
          have hzc1 : (z : Int) ≤ c := by omega
          have hzc2 : (z : Int) + 1 ≤ N := by omega
          have hzc3 : (z : Int) + 1 ≤ c := by omega
          have hzc4 : z ≤ c := by omega
          have hw1 : IntKind.i64.wrap ((z : Int) + 1) = (z : Int) + 1 := IntWalk.i64_in _ (by omega)
          have ht1 : ((z : Int) + 1).toNat = z + 1 := by omega
          have h01 : (0 : Int) ≤ (z : Int) + 1 := by omega
          have hzz1 : (z : Int) ≤ (z : Int) + 1 := by omega
          have hl9 := cells4 (lo (put F i (some { p with w := p.w + by_ })) i)
          by_cases hcz : c = z + 1
          · rw [if_pos hcz] at r2
            subst hcz
            obtain rfl : N = z + 1 := by omega
            rw [Nat.sub_self] at r2
            have HFIN1 : Hid (∀ A10 c10 w10, Below w3.heap.size w3 w10 → Row w10 w3.heap.size 59 4 (.slice A10 (0 + z + 0) c10) (0 + z + 0) ([] ++ (lo (put F i (some { p with w := p.w + by_ })) i).flatMap Pr.cells ++ (hi_ (put F i (some { p with w := p.w + by_ })) i).flatMap Pr.cells) → QGo w B q0 (.slice (some ⟨g, o, none⟩) (z + 1) (z + 1)) (put F i (afterP (p.add 1 by_))) (w10.setCell ⟨q0, 0, none⟩ (.slice A10 z c10))) := Lib.hid (fun A10 c10 w10 hb hr => by
              have hq := HFIN.out A10 c10 w10 hb (by rw [Nat.sub_self]; exact hr)
              rw [Nat.sub_self, Nat.add_zero, Nat.zero_add, HN.out] at hq
              exact hq)
            have RH : Hid (∀ w9, Below w3.heap.size w3 w9 → Reads w9 w3.heap.size 4 (some ⟨g, o, none⟩) 0 ((hi_ (put F i (some { p with w := p.w + by_ })) i).flatMap Pr.cells)) := Lib.hid (fun w9 hb => r2.reads.below' hb (Nat.le_refl _))
            clear r1 r2 U3
            go_upto_region 10 with (fail)
            go_region_law (first | (refine step_append_row rfl (.tmp 70) (.tmp 75) 45 rfl w3.heap.size 59 i0 (.agg #[.int .i64 0, .int .i64 0, .int .i64 0, .string ByteArray.empty]) 4 40 Try.underlying45 ii hz0 hz1 hz2 rfl (by decide) (.slice (some ⟨w3.heap.size, 0, none⟩) 0 0) 0 [] (by simp [Act.eval, Act.put]) RB0.out w3.heap.size (some ⟨g, o, none⟩) z (z + 1) ((lo (put F i (some { p with w := p.w + by_ })) i).flatMap Pr.cells) (by simp [Act.eval, Act.put]) RL.out (rq_one _) (by unfold maxLen; omega) (by omega) (by simp) ?_; intro A9 c9 w9 hr9 hg9 ho9; have hb9 := HB9.out w9 hg9; have HR9 := Lib.hid hr9; have HX9 := Lib.hid hb9; have k0 := (hb9.cell (p := ⟨q0, 0, none⟩) xl3).trans x0'; have kl9 := Nat.lt_of_lt_of_le xl3 hb9.size; have HH9 := Lib.hid (RH.out w9 hb9); clear hr9 hg9 ho9 hb9) | (refine step_append_row rfl (.tmp 76) (.tmp 82) 45 rfl w3.heap.size 59 i0 (.agg #[.int .i64 0, .int .i64 0, .int .i64 0, .string ByteArray.empty]) 4 40 Try.underlying45 ii hz0 hz1 hz2 rfl (by decide) (.slice A9 (0 + z) c9) (0 + z) ([] ++ (lo (put F i (some { p with w := p.w + by_ })) i).flatMap Pr.cells) (by simp [Act.eval, Act.put]) HR9.out w3.heap.size (some ⟨g, o, none⟩) 0 0 ((hi_ (put F i (some { p with w := p.w + by_ })) i).flatMap Pr.cells) (by simp [Act.eval, Act.put]) HH9.out (rq_one _) (by unfold maxLen; omega) (by omega) HX9.out.size ?_; intro A10 c10 w10 hr10 hg10 ho10; have hb10 := HX9.out.grown hg10 HX9.out.size (fun k hk => (HR9.out.lt k hk).1); have kb10 := HOB.out w10 hb10; have k100 := kb10.cell 0; have kl10 := kb10.lt; have kf10 := kb10.free 0; have HP10 := Lib.hid (HFIN1.out A10 c10 w10 hb10 hr10); clear hr10 hg10 ho10 hb10 kb10) | fail)
            all_goals
              go_wp2
              go_ret
              exact ⟨rfl, HP10.out⟩
          · rw [if_neg hcz] at r2
            simp only [Option.map_some, add_plain] at r2
            have RH : Hid (∀ w9, Below w3.heap.size w3 w9 → Reads w9 w3.heap.size 4 (some ⟨g, o + (z + 1) * 4, none⟩) (N - (z + 1)) ((hi_ (put F i (some { p with w := p.w + by_ })) i).flatMap Pr.cells)) := Lib.hid (fun w9 hb => r2.reads.below' hb (Nat.le_refl _))
            clear r1 r2 U3
            go_upto_region 10 with (fail)
            go_region_law (first | (refine step_append_row rfl (.tmp 70) (.tmp 75) 45 rfl w3.heap.size 59 i0 (.agg #[.int .i64 0, .int .i64 0, .int .i64 0, .string ByteArray.empty]) 4 40 Try.underlying45 ii hz0 hz1 hz2 rfl (by decide) (.slice (some ⟨w3.heap.size, 0, none⟩) 0 0) 0 [] (by simp [Act.eval, Act.put]) RB0.out w3.heap.size (some ⟨g, o, none⟩) z c ((lo (put F i (some { p with w := p.w + by_ })) i).flatMap Pr.cells) (by simp [Act.eval, Act.put]) RL.out (rq_one _) (by unfold maxLen; omega) (by omega) (by simp) ?_; intro A9 c9 w9 hr9 hg9 ho9; have hb9 := HB9.out w9 hg9; have HR9 := Lib.hid hr9; have HX9 := Lib.hid hb9; have k0 := (hb9.cell (p := ⟨q0, 0, none⟩) xl3).trans x0'; have kl9 := Nat.lt_of_lt_of_le xl3 hb9.size; have HH9 := Lib.hid (RH.out w9 hb9); clear hr9 hg9 ho9 hb9) | (refine step_append_row rfl (.tmp 76) (.tmp 82) 45 rfl w3.heap.size 59 i0 (.agg #[.int .i64 0, .int .i64 0, .int .i64 0, .string ByteArray.empty]) 4 40 Try.underlying45 ii hz0 hz1 hz2 rfl (by decide) (.slice A9 (0 + z) c9) (0 + z) ([] ++ (lo (put F i (some { p with w := p.w + by_ })) i).flatMap Pr.cells) (by simp [Act.eval, Act.put]) HR9.out w3.heap.size (some ⟨g, o + (z + 1) * 4, none⟩) (N - (z + 1)) (c - (z + 1)) ((hi_ (put F i (some { p with w := p.w + by_ })) i).flatMap Pr.cells) (by simp [Act.eval, Act.put]) HH9.out (rq_one _) (by unfold maxLen; omega) (by omega) HX9.out.size ?_; intro A10 c10 w10 hr10 hg10 ho10; have hb10 := HX9.out.grown hg10 HX9.out.size (fun k hk => (HR9.out.lt k hk).1); have kb10 := HOB.out w10 hb10; have k100 := kb10.cell 0; have kl10 := kb10.lt; have kf10 := kb10.free 0; have HP10 := HFIN.out A10 c10 w10 hb10 hr10; rw [Nat.zero_add, HN.out] at HP10; have HP10 := Lib.hid HP10; clear hr10 hg10 ho10 hb10 kb10) | fail)
            all_goals
              go_wp2
              go_ret
              exact ⟨rfl, HP10.out⟩
        · have HAF : Hid (afterP (p.add 1 by_) = some { p with w := p.w + by_ }) := Lib.hid (by rw [HPA.out]; unfold afterP; dsimp only; rw [if_neg (by omega)])
          have hsd : (p.r + (p.w + by_) == 0) = false := by simpa using hs
          refine wp_region_near w2.heap.size (by kernel_rfl) (by kernel_rfl) ?_
          repeat (go_big_quiet_step (fail))
          refine wpQuiet_nil ?_
          intro w3 hb3
          have HFIN : Hid (QGo w B q0 (.slice (some ⟨g, o, none⟩) (allR F).length c) (put F i (afterP (p.add 1 by_))) w3) := Lib.hid (by
            rw [HAF.out]
            exact QGo.comp ((Fr.of_grow HB1.out).mono fun _ _ e => e.elim) (fun k hk => .inl hk) ((Qe.go HU.out).grow hb3))
          go_wp2
          go_ret
          exact ⟨rfl, HFIN.out⟩
  · obtain ⟨x, hx⟩ : ∃ x, errE F id e = x := ⟨_, rfl⟩
    have h00 := h0
    rw [hx] at h0
    obtain ⟨h1, h2⟩ := turnE_err (by_ := by_) hx h0
    rw [h1, h2]
    have HV : Hid (whoV F id e = .tuple #[.int .i64 0, .int .i64 0, .int .i64 x]) := Lib.hid (by unfold whoV; rw [if_pos h00, hx])
    rw [HV.out] at HW
    have hd : (x != 0) = true := by simpa using h0
    clear h hx h0 h1 h2 hn hrq h00
    go_enter Try.func28, Try.ntmps28
    go_wp2_with fail
    refine HW.out.mono ?_
    rintro y w1 ⟨rfl, hb1⟩
    go_wp2
    go_ret
    exact ⟨rfl, H.out.grown hb1⟩
end
end Go.Proofs.Ythlhjaacjhlkhaa
