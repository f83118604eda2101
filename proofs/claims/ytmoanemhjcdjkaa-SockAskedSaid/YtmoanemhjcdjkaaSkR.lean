/- Contract of the sockets' Drop. -/
import Derived.Test.YtmoanemhjcdjkaaSkN
import Derived.Test.YtmoanemhjcdjkaaSkQ
namespace Go.Proofs.Ytmoanemhjcdjkaa
open Go.RowKit
set_option maxHeartbeats 400000
set_option linter.unusedVariables false
set_option linter.unusedSimpArgs false
/-- Those below k are filtered. -/
def fltK (F : Fs) (M : List Int) (k : Nat) : Fs := fun i => if i < k then flt F M i else F i
theorem fltK_zero (F : Fs) (M : List Int) : fltK F M 0 = F := by
  funext i
  simp [fltK]
theorem fltK_all {F : Fs} (h : ∀ i, 16 ≤ i → F i = none) (M : List Int) : fltK F M 16 = flt F M := by
  funext i
  unfold fltK
  by_cases e : i < 16
  · rw [if_pos e]
  · rw [if_neg e]
    unfold flt
    rw [h i (by omega)]; rfl
theorem fltK_none {F : Fs} {M : List Int} {k : Nat} (h : F k = none) : fltK F M (k + 1) = fltK F M k := by
  funext i
  unfold fltK
  by_cases e : i = k
  · subst e
    rw [if_pos (by omega), if_neg (by omega)]
    unfold flt
    rw [h]; rfl
  · by_cases e2 : i < k
    · rw [if_pos e2, if_pos (by omega)]
    · rw [if_neg e2, if_neg (by omega)]
theorem fltK_at (F : Fs) (M : List Int) (k : Nat) : fltK F M k k = F k := by
  unfold fltK
  rw [if_neg (by omega)]
theorem fltK_some {F : Fs} {t : Int} {k : Nat} {p : Sk} (h : F k = some p) : fltK F [t] (k + 1) = put (fltK F [t] k) k (some { p with q := without p.q t }) := by
  funext i
  by_cases e : i = k
  · subst e
    rw [put_same]
    unfold fltK
    rw [if_pos (by omega)]
    unfold flt without
    rw [h]
    simp only [Option.map_some, Option.some.injEq, Sk.mk.injEq, true_and, and_true]
    apply List.filter_congr
    intro z _
    by_cases e : z = t <;> simp [e]
  · rw [put_other _ e]
    unfold fltK
    by_cases e2 : i < k
    · rw [if_pos e2, if_pos (by omega)]
    · rw [if_neg e2, if_neg (by omega)]
section
variable {w w' : World} {B g : Nat} {F : Fs} {L : Nat → Sl} {i j k : Nat} {p x y : Sk}
theorem Re.new_q_e {w9 : World} (h : Re w B g F L) (hB : B ≤ w.heap.size) (hi : i < 16) (hp : F i = some p) (hf : Fr (fun k => (L i).q.ownBlock = some k) w w9) {v : Value} {xs : List Int} (hr : Row w9 w.heap.size 3 1 v xs.length (xs.map (Value.int .i64))) (hok : ({ p with q := xs } : Sk).ok) :
    RGe w B g F L (Ytmoanemhjcdjkaa.put F i (some { p with q := xs })) (setL L i { L i with q := v }) (w9.setCell ⟨(L i).b, 3, none⟩ v) := by
  obtain ⟨h1, h2, h3⟩ := h.turn_q hi hp hf (hr.base_le hB) (fun k hk => .inr (hr.lt k hk).1) hok
  exact h.put_e hi hp (l := { L i with q := v }) rfl h1 h2 h3
theorem Re.refl_e (h : Re w B g F L) : RGe w B g F L F L w := ⟨h, Fr.refl _ _, fun k hk => .inl hk⟩
/-- What the calls of gone may turn. -/
def GoneS (F : Fs) (g : Nat) (L : Nat → Sl) (k : Nat) : Prop := k = g ∨ ∃ i y, i < 16 ∧ F i = some y ∧ k = (L i).b
theorem GoneS.rft {k : Nat} (h : GoneS F g L k) : RFt g F L k := by
  rcases h with e | ⟨i, y, hi, hy, e⟩
  · exact .inl e
  · exact .inr ⟨i, y, hi, hy, .inl e⟩
theorem GoneS.cut {M : List Int} {k : Nat} (h : GoneS (cutL F M) g L k) : GoneS F g L k := by
  rcases h with e | ⟨i, y, hi, hy, e⟩
  · exact .inl e
  · obtain ⟨_, z, hz, _⟩ := cutL_some hy
    exact .inr ⟨i, z, hi, hz, e⟩
theorem rft_cut {M : List Int} {k : Nat} (h : RFt g (cutL F M) L k) : RFt g F L k := by
  rcases h with e | ⟨i, y, hi, hy, e⟩
  · exact .inl e
  · obtain ⟨_, z, hz, _⟩ := cutL_some hy
    exact .inr ⟨i, z, hi, hz, e⟩
/-- The row of a socket's queue is none of what gone turns. -/
theorem Re.q_gone (h : Re w B g F L) (hi : i < 16) (hp : F i = some p) : ∀ k, (L i).q.ownBlock = some k → ¬ GoneS F g L k := fun k hk hs => by
  have o := h.ob i p hi hp
  rcases hs with e | ⟨a, y, ha, hy, e⟩
  · exact h.gne hi hp k (.inr (.inl hk)) e
  · subst e
    exact pp_row_blk o.q (h.ob a y ha hy).blk (by decide) hk
set_option maxHeartbeats 2000000 in
set_option maxRecDepth 100000 in
theorem drop_any (h : Re w B g F L) (hv : Inv F) (hB : B ≤ w.heap.size) (id : Int) : Calls Try.prog 22 #[.pointer (some ⟨g, 0, none⟩), .int .i64 id] w (NamePost w B g F L (DropR F id)) := by
  have hmf : ∀ fn first cap w, (Instr.makeFunc fn first cap).run Try.prog w = .ok (.func fn first cap) w := fun _ _ _ _ => rfl
  have hb0 : Below w.heap.size w (w.alloc (.cells #[.int .i64 id] 3)) := (Below.refl _ _).alloc (Nat.le_refl _) _
  cases ha : at1 F id with
  | none =>
    have HP := Lib.hid (h.grown hb0)
    have HF := Lib.hid (find_none (h.grow hb0) ha)
    have HR : Hid (DropR F id 4 F) := Lib.hid (.none ha)
    clear h ha hv
    go_enter Try.func22, Try.ntmps22
    go_wp2_with fail
    refine HF.out.mono ?_
    rintro x w' ⟨rfl, rfl⟩
    go_wp2
    go_ret
    exact namePost HR.out HP.out
  | some x =>
    obtain ⟨j, hj, rfl, hp⟩ := at1_some ha
    have h1 := h.grow hb0
    have HE0 := Lib.hid (h.grown_e hb0)
    have HF := Lib.hid (find_some h1 hj hp)
    have hr : DropR F ((j : Int) + 1) 0 (dropF F (((j : Int) + 1) :: x.q)) := .ok ha
    rw [← drop_flt hv hj hp] at hr
    have HR := Lib.hid hr
    have HV := Lib.hid hv
    have HXJ := Lib.hid hp
    have HBB := Lib.hid hB
    have HLT := Lib.hid h.ltF
    obtain ⟨w0, hw0⟩ : ∃ W, W = w.alloc (.cells #[.int .i64 ((j : Int) + 1)] 3) := ⟨_, rfl⟩
    have hgb : Hid (Blk w0 w.heap.size #[.int .i64 ((j : Int) + 1)] 3) := Lib.hid (by rw [hw0]; exact Blk.new w _ 3)
    have hsz : w0.heap.size = w.heap.size + 1 := by rw [hw0]; simp
    have HL : Hid (∀ j u, (cellsA F fun i => (L i).b)[j]? = some u → w0.cell? ⟨g, 0 + j, none⟩ = some u) := Lib.hid (fun j u hu => by rw [hw0, Nat.zero_add]; exact (h1.blk.cell j).trans hu)
    have HI := Lib.hid (info54 F fun i => (L i).b)
    have HG := Lib.hid (fun (wr : World) j (hj : j < 16) => run_index54 wr _ j _ hj (cellsA_at F (fun i => (L i).b) hj))
    rw [← hw0] at HE0 HF h1
    have hl := h1.blk.lt
    have HH1 := Lib.hid h1
    have HW0 := Lib.hid hw0
    generalize (cellsA F fun i => (L i).b) = cs at *
    clear h h1 ha hv hr hp hb0 hw0
    go_enter Try.func22, Try.ntmps22
    go_wp2_with fail
    rw [← HW0.out]
    refine HF.out.mono ?_
    rintro e w' ⟨rfl, rfl⟩
    go_wp2_with (refine wpList_load_arr rfl 54 (.tmp 17) rfl g 0 rfl cs _ HL.out Try.underlying54 rfl HI.out ?_)
    clear HL HI hl
    go_loopw [19] (fun v wr => ∃ k : Nat, v = .int .i64 k ∧ k ≤ 16 ∧ Hid (∃ L', RGe w0 B g F L (fltK F [(j : Int) + 1] k) L' wr ∧ ∀ a, (L' a).b = (L a).b)) (fun v _ => 16 - (intOf v).toNat)
    case atStart => exact ⟨0, rfl, by omega, Lib.hid ⟨L, by rw [fltK_zero]; exact HH1.out.refl_e, fun _ => rfl⟩⟩
    case round =>
      obtain ⟨k, rfl, hk, HS⟩ := hrel
      by_cases hk16 : k < 16
      · have hix := HG.out wr k hk16
        have hki : (k : Int) < 16 := by omega
        cases hF : F k with
        | none =>
          rw [ptrA_none hF] at hix
          rw [← fltK_none (M := [(j : Int) + 1]) hF] at HS
          clear hF
          go_wp2
          go_roundw
          case rel => exact ⟨k + 1, by go_num, by omega, HS⟩
          case measure => simp [intOf]; omega
        | some p =>
          rw [ptrA_some hF] at hix
          obtain ⟨L', hge, hlb⟩ := HS.out
          have hpk := (fltK_at F [(j : Int) + 1] k).trans hF
          have o := hge.1.ob k p hk16 hpk
          have c3 := o.blk.cell 3
          have hl3 := o.blk.lt
          have oq := o.q
          have hok := o.ok
          obtain ⟨A, c, hv0, hn0, hm0⟩ := oq.shape
          dsimp [Sk.cells] at c3
          rw [hlb k] at c3 hl3
          rw [hv0] at c3 oq
          have hq4 : p.q.length ≤ 4 := by
            obtain ⟨k1, k2, k3, k4, k5, k6, k7, k8⟩ := hok
            omega
          have HC0 := iclone_any A p.q.length c p.q wr wr.heap.size oq.reads rfl (Nat.le_refl _) (by omega)
          obtain ⟨n, hn⟩ : ∃ n, p.q.length = n := ⟨_, rfl⟩
          rw [hn] at c3 HC0 hn0 hq4
          have HC := Lib.hid HC0
          have hbq : Blk wr w.heap.size #[.int .i64 ((j : Int) + 1)] 3 := hgb.out.fr hge.2.1 (fun e => by have := HLT.out _ e; omega)
          have hwr := hge.2.1.size
          have HBQ := Lib.hid hbq
          have HO := Lib.hid (hlb k ▸ o.blk)
          have HPB : Hid (B ≤ wr.heap.size) := Lib.hid (by have := HBB.out; omega)
          have HFK := Lib.hid (fltK_some (t := (j : Int) + 1) hF)
          have HGE := Lib.hid hge
          have HLB := Lib.hid hlb
          have HOK := Lib.hid hok
          have HPK := Lib.hid hpk
          clear hF hge hlb hpk o oq hok hv0 hm0 HC0 hbq HS hn
          go_wp2_with fail
          refine HC.out.mono ?_
          rintro e w4 ⟨v1, rfl, hr1, hb1⟩
          obtain ⟨A1, c1, rfl, -, -⟩ := hr1.shape
          have HD := Lib.hid (deleteFunc36 w.heap.size ((j : Int) + 1) A1 n c1 p.q w4 wr.heap.size hr1 ((HBQ.out.fr (Fr.of_grow hb1) id).cell 0) (fun e => by have := (hr1.lt _ e).1; omega))
          have HOW : Hid (∀ k, (Value.slice A1 0 0).ownBlock = some k → wr.heap.size ≤ k) := Lib.hid (fun k hk => (hr1.lt k (by rw [← hk]; exact pr_own)).1)
          have HB4 := Lib.hid hb1
          clear hr1 hb1
          go_wp2_with fail
          refine HD.out.mono ?_
          rintro e w5 ⟨rfl, hr5, hf5⟩
          have hb5 := (HO.out.fr (Fr.of_grow HB4.out) id).fr hf5 (fun e => by have := HOW.out _ e; omega)
          have hf0 : Fr (fun k => (L' k).q.ownBlock = some k) wr w5 := ((Fr.of_grow HB4.out).mono fun _ _ e => e.elim).trans hf5 (fun k hk e => by have := HOW.out _ e; omega)
          have HM : Hid (∃ L'', RGe w0 B g F L (fltK F [(j : Int) + 1] (k + 1)) L'' (w5.setCell ⟨(L k).b, 3, none⟩ (.slice A1 (without p.q ((j : Int) + 1)).length c1)) ∧ ∀ a, (L'' a).b = (L a).b) := Lib.hid (by
            have hm := HGE.out.1.new_q_e HPB.out hk16 HPK.out (((Fr.of_grow HB4.out).mono fun _ _ e => e.elim).trans hf5 (fun k hk e => by have := HOW.out _ e; omega)) hr5 (by
              obtain ⟨k1, k2, k3, k4, k5, k6, k7, k8⟩ := HOK.out
              refine ⟨k1, k2, k3, k4, k5, k6, ?_, k8⟩
              have : (without p.q ((j : Int) + 1)).length ≤ p.q.length := List.length_filter_le _ _
              dsimp only
              omega)
            rw [← HFK.out, HLB.out k] at hm
            refine ⟨_, HGE.out.trans hm, fun a => ?_⟩
            by_cases e : a = k
            · subst e; rw [setL_same]; exact HLB.out a
            · rw [setL_other _ e]; exact HLB.out a)
          have z3 := hb5.cell 3
          have zf := hb5.free 3
          have zl := hb5.lt
          dsimp [Sk.cells] at z3
          generalize (without p.q ((j : Int) + 1)).length = m at *
          clear hb5 hf0 hr5 hf5
          go_wp2
          go_roundw
          case rel => exact ⟨k + 1, by go_num, by omega, HM⟩
          case measure => simp [intOf]; omega
      · have hk16' : k = 16 := by omega
        have hnk : ¬ (k : Int) < 16 := by omega
        obtain ⟨L', hge, hlb⟩ := HS.out
        rw [hk16', fltK_all HV.out.out] at hge
        clear hk16'
        have hx2 : flt F [(j : Int) + 1] j = some { x with q := x.q } := by
          have := flt_self HV.out hj HXJ.out
          unfold flt
          rw [HXJ.out]
          simp only [Option.map_some, this]
        have o := hge.1.ob j _ hj hx2
        have c3 := o.blk.cell 3
        have hl3 := o.blk.lt
        have oq := o.q
        have hok := o.ok
        obtain ⟨A, c, hv0, hn0, hm0⟩ := oq.shape
        dsimp only [Sk.cells] at c3 hv0 hn0 oq
        rw [hlb j] at c3 hl3
        rw [hv0] at c3 oq
        obtain ⟨n, hn⟩ : ∃ n, x.q.length = n := ⟨_, rfl⟩
        rw [hn] at c3 oq hn0
        have hn4 : n ≤ 4 := by
          obtain ⟨k1, k2, k3, k4, k5, k6, k7, k8⟩ := hok
          omega
        have HQG : Hid (∀ k, (Value.slice A n c).ownBlock = some k → ¬ GoneS (flt F [(j : Int) + 1]) g L' k) := Lib.hid (fun k hk hs => hge.1.q_gone hj hx2 k (by rw [hv0, hn]; exact hk) hs)
        have HBQ : Hid (Blk wr w.heap.size #[.int .i64 ((j : Int) + 1)] 3) := Lib.hid (hgb.out.fr hge.2.1 (fun e => by have := HLT.out _ e; omega))
        have HBG : Hid (¬ GoneS (flt F [(j : Int) + 1]) g L' w.heap.size) := Lib.hid (fun hs => by
          rcases hge.2.2 _ hs.rft with e | e
          · have := HLT.out _ e; omega
          · omega)
        have HGE := Lib.hid hge
        have HN := Lib.hid hn
        have HROW := Lib.hid oq
        have HX2 := Lib.hid hx2
        have HWS := Lib.hid hge.2.1.size
        obtain ⟨W, hW⟩ : ∃ W, W = wr := ⟨_, rfl⟩
        subst hW
        clear hge hlb hx2 o oq hok hv0 hm0 HS hn
        go_wp2_with fail
        go_loopw [40] (fun v wr => ∃ m : Nat, v = .int .i64 m ∧ m ≤ n ∧ Hid (Re wr B g (cutL (flt F [(j : Int) + 1]) (x.q.take m)) L' ∧ Fr (GoneS (flt F [(j : Int) + 1]) g L') W wr)) (fun v _ => n - (intOf v).toNat)
        case atStart => exact ⟨0, rfl, by omega, Lib.hid ⟨by rw [List.take_zero, cutL_nil]; exact HGE.out.1, Fr.refl _ _⟩⟩
        case round =>
          obtain ⟨m, rfl, hm, HS⟩ := hrel
          by_cases hlt : m < n
          · have hro := HROW.out.fr HS.out.2 HQG.out
            obtain ⟨b, o, rfl, hb, hc⟩ := (RD.of_row hro).at_ hlt
            have hmx : m < x.q.length := by rw [HN.out]; exact hlt
            have hz : x.q.getD m 0 = x.q[m] := by simp [List.getD, List.getElem?_eq_getElem hmx]
            have hzm : x.q[m] ∈ x.q := List.getElem_mem hmx
            obtain ⟨hk2, a, y, ha, hza, hya, hk3⟩ := HV.out.queue j x _ hj HXJ.out hzm
            rw [hz, hza] at hc
            have hnt : ((a : Int) + 1) ∉ x.q.take m := fun e => by
              rw [← hza] at e
              obtain ⟨i', hi', e⟩ := List.mem_iff_getElem.1 e
              rw [List.length_take] at hi'
              rw [List.getElem_take] at e
              have := (List.getElem_inj (HV.out.nodup j x hj HXJ.out)).1 e
              omega
            have hya2 : flt F [(j : Int) + 1] a = some { y with q := y.q.filter (fun k => decide (k ∉ [(j : Int) + 1])) } := by
              unfold flt
              rw [hya]; rfl
            have HGN := Lib.hid (gone_any HS.out.1 ((HV.out.p.flt _).cut _) ha (cutL_live hya2 hnt))
            have HT : Hid (x.q.take (m + 1) = x.q.take m ++ [(a : Int) + 1]) := Lib.hid (by rw [List.take_succ_eq_append_getElem hmx, hza])
            have HFR := Lib.hid HS.out.2
            clear hro hb hmx hz hzm hza hk2 hya hk3 hnt hya2 HS
            go_wp2_with fail
            refine HGN.out.mono ?_
            rintro e w6 ⟨rfl, hre, hfr⟩
            rw [cutL_cut _ _ _ (by simp; omega), ← HT.out] at hre
            have HN6 : Hid (Re w6 B g (cutL (flt F [(j : Int) + 1]) (x.q.take (m + 1))) L' ∧ Fr (GoneS (flt F [(j : Int) + 1]) g L') W w6) := Lib.hid ⟨hre, HFR.out.trans hfr (fun k _ e => GoneS.cut e)⟩
            clear hre hfr
            go_wp2
            go_roundw
            case rel => exact ⟨m + 1, by go_num, by omega, HN6⟩
            case measure => simp [intOf]; omega
          · obtain rfl : m = n := by omega
            have hbq := HBQ.out.fr HS.out.2 HBG.out
            have bc : wr.cell? ⟨w.heap.size, 0, none⟩ = some (.int .i64 ((j : Int) + 1)) := hbq.cell 0
            have bl := hbq.lt
            obtain ⟨hre, hfr⟩ := HS.out
            rw [List.take_of_length_le (by rw [HN.out]; exact Nat.le_refl _)] at hre
            have hnt : ((j : Int) + 1) ∉ x.q := fun e => by
              obtain ⟨hk2, a, y, ha, hza, hya, hk3⟩ := HV.out.queue j x _ hj HXJ.out e
              have : a = j := by omega
              subst this
              rw [HXJ.out] at hya
              injection hya with hya
              subst hya
              omega
            have HGN := Lib.hid (gone_any hre ((HV.out.p.flt _).cut _) hj (cutL_live HX2.out hnt))
            have HFR := Lib.hid hfr
            clear hbq hre hfr hnt HS
            go_wp2_with fail
            refine HGN.out.mono ?_
            rintro e w6 ⟨rfl, hre, hfr⟩
            rw [cutL_cut _ _ _ (by simp; omega)] at hre
            have HP : Hid (RGo w B g F L (cutL (flt F [(j : Int) + 1]) (x.q ++ [(j : Int) + 1])) w6) := Lib.hid (RGe.go ((HE0.out.trans HGE.out).trans ⟨hre, (HFR.out.trans hfr (fun k _ e => GoneS.cut e)).mono (fun k _ e => e.rft), fun k hk => .inl (rft_cut hk)⟩))
            clear hre hfr
            go_wp2
            go_ret
            exact namePost HR.out HP.out
end
end Go.Proofs.Ytmoanemhjcdjkaa
