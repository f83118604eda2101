/- Contracts of the reference's SockDropped, SockList, and of sameBytes. -/
import Derived.Test.YtmoanemhjcdjkaaSrD
import Derived.Test.YtmoanemhjcdjkaaSkR
import Derived.Test.YtmoanemhjcdjkaaSkM
namespace Go.Proofs.Ytmoanemhjcdjkaa
open Go.RowKit Go.Maps
set_option maxHeartbeats 400000
set_option linter.unusedVariables false
set_option linter.unusedSimpArgs false
theorem sameBytes_sk (A A' : Option Addr) (n c n' c' : Nat) (xs ys : List Int) (w : World) (B B' : Nat) (h : RB w B A n xs) (h' : RB w B' A' n' ys) :
    Calls Try.prog 19 #[.slice A n c, .slice A' n' c'] w fun e w' => e = .returned (.bool (decide (xs = ys))) ∧ w = w' := by
  have e1 := h.conv (P := Try.prog) c 30 9 5 Try.underlying30 Try.underlying5 Try.underlying9
  have e2 := h'.conv (P := Try.prog) c' 30 9 5 Try.underlying30 Try.underlying5 Try.underlying9
  go_enter Try.func19, Try.ntmps19
  go_wp2
  go_ret
  exact ⟨by rw [strOfNums_beq h.2 h'.2]; rfl, rfl⟩
/-- 'for _, y := range s': the next socket. -/
theorem wpList_next_pm (w : World) {ops : Array Oper} {rest : List Oper} {o : Oper} {a : Act} {Q : Exit → Act → World → Prop} (hg : o.guard = none) (it : Operand) (hop : o.op = Op.next it false) (b r n : Nat) (D : DataW Value) (f : Int → Option Nat)
    (hD : MapSays D f) (left : Lit → Bool) (cnt : Nat) (hit : a.eval it = .pointer (some ⟨r, 0, none⟩)) (h : w.ranges Try.prog 3 selfE b r n D left cnt)
    (hDone : cnt = 0 → (∀ kl, left kl = false) → wpList Try.prog ops Q rest (a.put o.dst (.tuple #[.bool false])) w)
    (hMore : ∀ (x : Int) (k : Nat) (w' : World) (cnt' : Nat), left (.int .i64 x) = true → f x = some k → w'.ranges Try.prog 3 selfE b r n D (fun z => left z && !z.sameKey (.int .i64 x)) cnt' → cnt' < cnt →
      w.grownBy w' (some r) → w'.heap.size = w.heap.size → (Instr.entry (.pointer (some ⟨r, 0, none⟩))).run Try.prog w' = .ok (.tuple #[.int .i64 x, .pointer (some ⟨k, 0, none⟩)]) w' → wpList Try.prog ops Q rest (a.put o.dst (.tuple #[.bool true, .int .i64 x, .pointer (some ⟨k, 0, none⟩)])) w') :
    wpList Try.prog ops Q (o :: rest) a w :=
  wpList_next_ranges w hg it hop 3 (int_keyed Try.underlying3) selfE (Value.int .i64) (fun v : Value => v) (fun key kl hkey => by obtain ⟨x, rfl, _⟩ := Maps.keyOf_int_inv Try.underlying3 hkey; exact ⟨x, rfl⟩)
    (fun v y hv => ⟨v, rfl⟩) b r n D left cnt hit h hDone
    (fun x c kl y w' cnt' hk hl hR hat hr hc hg' hs he => by
      have hkl : kl = .int .i64 x := by
        simp only [keyOf, Try.underlying3, mapKey] at hk
        split at hk
        · exact (Option.some.inj hk).symm
        · cases hk
      subst hkl
      have hh := has_true_of_atKey hat
      rw [(hD x).1] at hh
      obtain ⟨k, hf⟩ := Option.isSome_iff_exists.1 hh
      have h2 := hat (.held (.pointer none))
      rw [(hD x).2, hf] at h2
      unfold selfE at hR
      injection hR with hR
      rw [← hR] at h2
      injection h2 with h2
      rw [optP_some] at h2
      subst h2
      exact hMore x k w' cnt' hl hf hr hc hg' hs he)
/-- Plain law. -/
theorem dropF_nil (F : Fs) : dropF F [] = F := by unfold dropF; rw [flt_nil, cutL_nil]
def dropP (p : Sk) (t : Int) : Sk := { p with q := without p.q t, peer := if p.peer = t then 0 else p.peer }
theorem without_eq (xs : List Int) (t : Int) : xs.filter (fun k => decide (k ∉ [t])) = without xs t := by
  unfold without
  apply List.filter_congr
  intro z _
  by_cases e : z = t <;> simp [e]
theorem drop_one {G : Fs} {a i : Nat} (h : put G a none i = none) : dropF G [(a : Int) + 1] i = none := by
  unfold dropF cutL flt
  by_cases e : i = a
  · subst e
    rw [if_pos (by simp)]
  · rw [put_other _ e] at h
    rw [if_neg (by simp; omega), h]
    rfl
theorem drop_two {G : Fs} {a i : Nat} {p : Sk} (h : put G a none i = some p) : dropF G [(a : Int) + 1] i = some (dropP p ((a : Int) + 1)) := by
  have e : i ≠ a := fun e => by subst e; rw [put_same] at h; cases h
  rw [put_other _ e] at h
  unfold dropF cutL flt dropP
  rw [if_neg (by simp; omega), h]
  simp only [Option.map_some, without_eq]
  simp
def mixF (G1 G2 : Fs) (left : Lit → Bool) : Fs := fun i => if left (.int .i64 ((i : Int) + 1)) = true then G1 i else G2 i
theorem mix_at {G1 G2 : Fs} {left : Lit → Bool} {i : Nat} (h : left (.int .i64 ((i : Int) + 1)) = true) : mixF G1 G2 left i = G1 i := by unfold mixF; rw [if_pos h]
theorem mix_done {G1 G2 : Fs} {left : Lit → Bool} (h : ∀ kl, left kl = false) : mixF G1 G2 left = G2 := by
  funext i
  unfold mixF
  rw [if_neg (by rw [h]; simp)]
theorem mix_start {G1 G2 : Fs} {left : Lit → Bool} (h : ∀ i : Nat, left (.int .i64 ((i : Int) + 1)) = (G1 i).isSome) (h2 : ∀ i, G1 i = none → G2 i = none) : mixF G1 G2 left = G1 := by
  funext i
  unfold mixF
  rw [h i]
  cases hG : G1 i with
  | none => rw [if_neg (by simp), h2 i hG]
  | some p => simp
theorem mix_step {G1 G2 : Fs} {left : Lit → Bool} (i : Nat) : mixF G1 G2 (fun z => left z && !z.sameKey (.int .i64 ((i : Int) + 1))) = put (mixF G1 G2 left) i (G2 i) := by
  funext j
  by_cases e : j = i
  · subst e
    rw [put_same]
    unfold mixF
    rw [if_neg (by simp [Lit.sameKey])]
  · rw [put_other _ e]
    unfold mixF
    have : (Lit.int .i64 ((j : Int) + 1)).sameKey (.int .i64 ((i : Int) + 1)) = false := by simp [Lit.sameKey]; omega
    simp [this]
theorem drop_out {F : Fs} (h : ∀ i, 16 ≤ i → F i = none) (L : List Int) : ∀ i, 16 ≤ i → dropF F L i = none := fun i hi => by
  unfold dropF cutL flt
  rw [h i hi]
  split <;> rfl
theorem pt_inv {F : Fs} {M : Nat → Ml} {x : Int} {k : Nat} (h : pt F M x = some k) : ∃ (i : Nat) (p : Sk), i < 16 ∧ x = (i : Int) + 1 ∧ F i = some p ∧ k = (M i).b := by
  unfold pt at h
  cases ha : at1 F x with
  | none => rw [ha] at h; cases h
  | some p =>
    rw [ha] at h
    obtain ⟨i, hi, rfl, hp⟩ := at1_some ha
    refine ⟨i, p, hi, rfl, hp, ?_⟩
    simp at h
    exact h.symm
theorem fr_grownBy {w w' : World} {g : Nat} (h : Fr (fun k => k = g) w w') : w.grownBy w' (some g) := ⟨h.os, h.tape, h.output, h.size, fun k hk hn => h.block k hk (fun e => hn (by rw [e]))⟩
theorem dropP_ok {p : Sk} (h : p.ok) (t : Int) : (dropP p t).ok := by
  obtain ⟨k1, k2, k3, k4, k5, k6, k7, k8, k9, k10⟩ := h
  have h1 : (without p.q t).length ≤ p.q.length := List.length_filter_le _ _
  refine ⟨k1, k2, k3, k4, k5, k6, ?_, ?_, ?_, k10⟩
  · unfold dropP; dsimp only; omega
  · unfold dropP; dsimp only; split <;> omega
  · unfold dropP; dsimp only; split <;> omega
section
variable {w : World} {B b n : Nat} {F : Fs} {M : Nat → Ml} {i : Nat} {p : Sk}
set_option maxRecDepth 100000 in
theorem rlist_any (h : Rr w B b n F M) : Calls Try.prog 27 #[.map (some b)] w (RetL w F) := by
  obtain ⟨i0, ii, hz0, hz1, hz2⟩ := info_parts pi64info
  have HH := Lib.hid h
  clear h
  go_enter Try.func27, Try.ntmps27
  go_wp2_with fail
  go_loopw [3, 4] (fun v3 x wr => ∃ k : Nat, x = .int .i64 ((k : Int) + 1) ∧ k ≤ 16 ∧ Row wr w.heap.size 3 1 v3 (idsN F k).length ((idsN F k).map (Value.int .i64)) ∧ Below w.heap.size w wr) (fun _ x _ => 17 - (intOf x).toNat)
  case atStart => exact ⟨0, rfl, by omega, Row.nil _ _ _ _, Below.refl _ _⟩
  case round =>
    obtain ⟨k, rfl, hk, hr, hb⟩ := hrel
    have HB := Lib.hid hb
    have HR := Lib.hid hr
    have hlen := idsN_len F k
    obtain ⟨A3, c3, rfl, -, -⟩ := hr.shape
    have hg := HH.out.grow hb
    clear hb hr
    by_cases hk16 : k < 16
    · have hki : (k : Int) + 1 ≤ 16 := by omega
      cases hF : F k with
      | none =>
        have hlk := hg.look_none (lit_wf hk16) ((at1_of hk16).trans hF)
        have HO := Lib.hid (idsN_none hF)
        clear hF hg
        go_wp2
        go_roundw
        case rel => exact ⟨k + 1, by go_num, by omega, by rw [HO.out]; exact HR.out, HB.out⟩
        case measure => simp [intOf]; omega
      | some p =>
        have hlk := hg.look_some hk16 hF
        have HO := Lib.hid (idsN_some hF)
        clear hF hg
        have hll : (idsN F k).length ≤ 16 := by omega
        go_wp2_with (at_builtin; refine wpList_append_row _ rfl (.tmp 13) (.tmp 15) 49 rfl w.heap.size 3 i0 (.int .i64 0) 1 8 Try.underlying49 ii hz0 hz1 hz2 rfl (by decide) (.slice A3 (idsN F k).length c3) (idsN F k).length ((idsN F k).map (Value.int .i64)) rfl (HR.out.alloc _) (wr.heap.size + 1) (some ⟨wr.heap.size, 0, none⟩) 1 1 [.int .i64 ((k : Int) + 1)] rfl ?c1 (by simp [Value.oneCell']) (by unfold maxLen; omega) (by omega) ?c2 ?_; rotate_left; skip)
        case c1 => exact ⟨rfl, fun _ => ⟨wr.heap.size, 0, rfl, by omega, fun j u hu => by rw [Nat.zero_add]; rw [(Blk.new wr #[.int .i64 ((k : Int) + 1)] 3).cell]; simpa using hu⟩⟩
        case c2 => have := HB.out.size; simp; omega
        intro A9 c9 w9 hr9 hg9 ho9
        have HR9 : Hid (Row w9 w.heap.size 3 1 (.slice A9 ((idsN F k).length + 1) c9) (idsN F (k + 1)).length ((idsN F (k + 1)).map (Value.int .i64))) := Lib.hid (by
          rw [HO.out, List.length_append, List.map_append]
          exact hr9)
        have HB9 : Hid (Below w.heap.size w w9) := Lib.hid ((HB.out.alloc HB.out.size _).grown hg9 (by have := HB.out.size; simp; omega) (fun j hj => (HR.out.lt j hj).1))
        clear hr9 hg9 ho9
        go_wp2
        go_roundw
        case rel => exact ⟨k + 1, by go_num, by omega, HR9.out, HB9.out⟩
        case measure => simp [intOf]; omega
    · obtain rfl : k = 16 := by omega
      have hki : ¬ ((16 : Nat) : Int) + 1 ≤ 16 := by omega
      have HF : Hid (Row wr w.heap.size 3 1 (.slice A3 (ids F).length c3) (ids F).length ((ids F).map (Value.int .i64))) := HR
      clear hlen hg
      go_wp2
      go_ret
      exact ⟨A3, _, c3, rfl, rfl, HF.out, HB.out⟩
/-- What stands in the midst of a walk over the map. -/
def RSt (w2 w0 : World) (B b n : Nat) (G : Fs) (M' : Nat → Ml) (F' : Fs) (M'' : Nat → Ml) (wr : World) : Prop :=
  Rr wr B b n F' M'' ∧ Fr (TFt b G M') w2 wr ∧ (∀ k, TFt b F' M'' k → TFt b G M' k ∨ w0.heap.size ≤ k) ∧ (∀ c, (M'' c).b = (M' c).b) ∧ w0.heap.size ≤ wr.heap.size
theorem RSt.step {w2 w0 wr w3 : World} {G F' F3 : Fs} {M' M'' M3 : Nat → Ml} (h : RSt w2 w0 B b n G M' F' M'' wr) (hs : w2.heap.size ≤ w0.heap.size) (h3 : TGe wr B b n F' M'' n F3 M3 w3) (hb : ∀ c, (M3 c).b = (M'' c).b) : RSt w2 w0 B b n G M' F3 M3 w3 := by
  obtain ⟨a1, a2, a3, a4, a5⟩ := h
  obtain ⟨b1, b2, b3⟩ := h3
  refine ⟨b1, a2.trans b2 (fun k hk e => ?_), fun k hk => ?_, fun c => (hb c).trans (a4 c), Nat.le_trans a5 b2.size⟩
  · rcases a3 k e with q | q
    · exact q
    · omega
  · rcases b3 k hk with q | q
    · exact a3 k q
    · exact .inr (Nat.le_trans a5 q)
theorem wt_skip {xs : List Int} {t : Int} {k : Nat} (hk : k < xs.length) (h : xs.getD k 0 = t) : without (xs.take (k + 1)) t = without (xs.take k) t := by
  unfold without
  rw [List.take_succ_eq_append_getElem hk, List.filter_append]
  have : xs[k] = t := by rw [← h]; simp [List.getD, List.getElem?_eq_getElem hk]
  simp [this]
theorem wt_add {xs : List Int} {t : Int} {k : Nat} (hk : k < xs.length) (h : xs.getD k 0 ≠ t) : without (xs.take (k + 1)) t = without (xs.take k) t ++ [xs.getD k 0] := by
  unfold without
  rw [List.take_succ_eq_append_getElem hk, List.filter_append]
  have e : xs.getD k 0 = xs[k] := by simp [List.getD, List.getElem?_eq_getElem hk]
  rw [e] at h ⊢
  simp [h]
theorem without_le (xs : List Int) (t : Int) : (without xs t).length ≤ xs.length := List.length_filter_le _ _
set_option maxHeartbeats 4000000 in
set_option maxRecDepth 100000 in
theorem rdrop_any (h : Rr w B b n F M) (hv : Inv F) (hB : B ≤ w.heap.size) (id : Int) (hid : (Lit.int .i64 id).wf = true) : Calls Try.prog 23 #[.map (some b), .int .i64 id] w (NameQ w B b n F M (DropR F id)) := by
  obtain ⟨i0, ii, hz0, hz1, hz2⟩ := info_parts pi64info
  have HP := Lib.hid h.refl
  cases ha : at1 F id with
  | none =>
    have hlk := h.look_none hid ha
    have HR : Hid (DropR F id 4 F) := Lib.hid (.none ha)
    clear h ha hid hv
    go_enter Try.func23, Try.ntmps23
    go_wp2
    go_ret
    exact nameQ HR.out HP.out
  | some x =>
    obtain ⟨j, hj, rfl, hp⟩ := at1_some ha
    clear hid
    have hlk := h.look_some hj hp
    have o := h.ob j x hj hp
    have c4 := o.blk.cell 4
    have hl := o.blk.lt
    have oq := o.q
    obtain ⟨A0, n0, hv0, hn0, hm0⟩ := oq.shape
    dsimp [Sk.rcells] at c4
    rw [hv0] at c4 oq
    obtain ⟨l, hll⟩ : ∃ l, x.q.length = l := ⟨_, rfl⟩
    rw [hll] at c4 oq hn0
    have hl4 : l ≤ 4 := by
      obtain ⟨k1, k2, k3, k4, k5, k6, k7, -⟩ := o.ok
      omega
    have HR : Hid (DropR F ((j : Int) + 1) 0 (dropF F (((j : Int) + 1) :: x.q))) := Lib.hid (.ok ha)
    have HOUT := Lib.hid hv.out
    have HNS : Hid (∀ z, z ∈ ((j : Int) + 1) :: x.q → ∃ a : Nat, a < 16 ∧ z = (a : Int) + 1) := Lib.hid (fun z hz => by
      rcases List.mem_cons.1 hz with e | e
      · exact ⟨j, hj, e⟩
      · obtain ⟨-, a, y, h1, h2, -⟩ := hv.queue j x z hj hp e
        exact ⟨a, h1, h2⟩)
    have HRD := Lib.hid (oq.reads)
    have HLEN : Hid ((((j : Int) + 1) :: x.q).length = 1 + l) := Lib.hid (by rw [List.length_cons, hll]; omega)
    have HMAP : Hid ((Value.int .i64 ((j : Int) + 1)) :: x.q.map (Value.int .i64) = (((j : Int) + 1) :: x.q).map (Value.int .i64)) := Lib.hid rfl
    have HH := Lib.hid h
    have HLT := Lib.hid h.ltF
    obtain ⟨ns, hns⟩ : ∃ ns, ((j : Int) + 1) :: x.q = ns := ⟨_, rfl⟩
    rw [hns] at HR HNS HLEN HMAP
    clear h hv ha hp o oq hv0 hm0 hll hns HP
    go_enter Try.func23, Try.ntmps23
    go_wp2_with (at_builtin; refine wpList_append_row _ rfl (.tmp 19) (.tmp 23) 49 rfl w.heap.size 3 i0 (.int .i64 0) 1 8 Try.underlying49 ii hz0 hz1 hz2 rfl (by decide) (.slice (some ⟨w.heap.size, 0, none⟩) 1 1) 1 [.int .i64 ((j : Int) + 1)] rfl ?c1 w.heap.size A0 l n0 (x.q.map (Value.int .i64)) rfl ?c2 (i64_oneCell _) ?c3 ?c4 ?c5 ?_; rotate_left; skip)
    case c1 => exact ⟨rfl, .inr ⟨w.heap.size, 0, 1, #[.int .i64 ((j : Int) + 1)], rfl, Nat.le_refl _, Blk.new w _ 3, by omega, by unfold maxLen; omega, by simp, fun k u hu => by
      have hk : k = 0 := by
        rcases Nat.eq_zero_or_pos k with h0 | h0
        · exact h0
        · rw [List.getElem?_eq_none (by simp; omega)] at hu; cases hu
      subst hk
      simpa using hu⟩⟩
    case c2 => exact Reads.alloc HRD.out (Nat.le_refl _) _
    case c3 => unfold maxLen; omega
    case c4 => omega
    case c5 => simp
    intro A9 c9 w9 hr9 hg9 ho9
    have hr9' : Row w9 w.heap.size 3 1 (.slice A9 (1 + l) c9) (1 + l) (ns.map (Value.int .i64)) := by
      have := hr9
      rwa [HMAP.out] at this
    have hb9 : Below w.heap.size w w9 := ((Below.refl _ _).alloc (Nat.le_refl _) _).grown hg9 (by simp) (fun k hk => by simp [Value.ownBlock] at hk; omega)
    have HROW := Lib.hid hr9'
    have HE9 := Lib.hid (HH.out.grown_e hb9)
    have HS9 := Lib.hid hb9.size
    obtain ⟨N, hN⟩ : ∃ N, 1 + l = N := ⟨_, rfl⟩
    rw [hN] at HROW HLEN ⊢
    have hN5 : N ≤ 5 := by omega
    clear hr9 hr9' hg9 ho9 hb9 hlk c4 hl hN
    go_wp2_with fail
    go_loopw [26] (fun v wr => ∃ m : Nat, v = .int .i64 m ∧ m ≤ N ∧ Hid (∃ M', TGe w9 B b n F M n (dropF F (ns.take m)) M' wr)) (fun v _ => N - (intOf v).toNat)
    case atStart => exact ⟨0, rfl, by omega, Lib.hid ⟨M, by rw [List.take_zero, dropF_nil]; exact HE9.out.1.refl_e⟩⟩
    case round =>
      obtain ⟨m, rfl, hm, HS⟩ := hrel
      obtain ⟨W, hW⟩ : ∃ W, W = wr := ⟨_, rfl⟩
      subst hW
      by_cases hlt : m < N
      · obtain ⟨M', hte⟩ := HS.out
        have hro := HROW.out.fr hte.2.1 (fun k hk hs => by have := (HROW.out.lt k hk).1; have := HLT.out k hs; omega)
        obtain ⟨b', o', rfl, hb', hc⟩ := (RD.of_row hro).at_ hlt
        have hml : m < ns.length := by rw [HLEN.out]; exact hlt
        have hz : ns.getD m 0 = ns[m] := by simp [List.getD, List.getElem?_eq_getElem hml]
        obtain ⟨a, ha, hza⟩ := HNS.out ns[m] (List.getElem_mem hml)
        rw [hz, hza] at hc
        have HT : Hid (ns.take (m + 1) = ns.take m ++ [(a : Int) + 1]) := Lib.hid (by rw [List.take_succ_eq_append_getElem hml, hza])
        obtain ⟨w2, hdel, hm2, hg2⟩ := hte.1.map.delete (lit_wf ha)
        have hE2 := hte.trans (hte.1.del_e ha hm2 hg2)
        obtain ⟨D, hown, -, hD⟩ := hE2.1.map
        have HE2 := Lib.hid hE2
        have HGO := Lib.hid (drop_out HOUT.out (ns.take m))
        have hwb := (hro.lt b' rfl).2
        generalize hG : dropF F (ns.take m) = G at *
        have HGE : Hid (dropF G [(a : Int) + 1] = dropF F (ns.take (m + 1))) := Lib.hid (by rw [HT.out, ← hG]; exact drop_step F _ _ (by omega))
        have HD := Lib.hid hD
        clear hte hro hb' hml hz hza hm2 hg2 hE2 HS hG hD
        go_wp2_with (first
          | (at_range; refine wpList_range_own _ rfl _ 26 rfl 3 61 (int_keyed Try.underlying3) Try.underlying26 _ b n D rfl hown ?_; intro w0 hrg0 hg0 hs0)
          | fail)
        have hE0 := HE2.out.1.fr ((Fr.refl Nil w2).grown hg0 (fun k e => by cases e)) (fun _ _ e => e)
        have HE0 := Lib.hid hE0
        have HF20 : Hid (Fr Nil w2 w0) := Lib.hid ((Fr.refl Nil w2).grown hg0 (fun k e => by cases e))
        have HST : Hid (mixF (put G a none) (dropF G [(a : Int) + 1]) (Maps.has D) = put G a none) := Lib.hid (mix_start (fun i => by
          rw [(HD.out _).1]
          by_cases hi : i < 16
          · unfold pt
            rw [at1_of hi]
            cases put G a none i <;> rfl
          · rw [pt_none (at1_out (by omega))]
            have e : put G a none i = none := by rw [put_other _ (by omega)]; exact HGO.out i (by omega)
            rw [e]; rfl) (fun i h => drop_one h))
        have HLT2 := Lib.hid HE2.out.1.ltF
        clear hE0 hg0 hdel hown hc hwb
        go_frame
        go_loopw [9] (fun _ wr => ∃ (left : Lit → Bool) (cnt : Nat), wr.ranges Try.prog 3 selfE b w2.heap.size n D left cnt ∧ Hid (∃ M'', RSt w2 w0 B b n (put G a none) M' (mixF (put G a none) (dropF G [(a : Int) + 1]) left) M'' wr)) (fun _ wr => wr.rangeLeft b w2.heap.size)
        case atStart => exact ⟨_, _, hrg0, Lib.hid ⟨M', by rw [HST.out]; exact ⟨HE0.out, HF20.out.mono (fun _ _ e => e.elim), fun k hk => .inl hk, fun _ => rfl, Nat.le_refl _⟩⟩⟩
        case round =>
          obtain ⟨left, cnt, hrg, HI⟩ := hrel
          clear hrg0
          go_wp2_with (first
            | (at_next; refine wpList_next_pm _ rfl _ rfl b w2.heap.size n D _ HD.out left cnt rfl hrg ?_ ?_)
            | fail)
          · intro hc0 hl0
            have HN : Hid (∃ M', TGe w9 B b n F M n (dropF F (ns.take (m + 1))) M' wr) := Lib.hid (by
              obtain ⟨M'', h1, h2, h3, -, -⟩ := HI.out
              rw [mix_done hl0, HGE.out] at h1 h3
              exact ⟨M'', HE2.out.trans ⟨h1, h2, fun k hk => by
                rcases h3 k hk with e | e
                · exact .inl e
                · exact .inr (by omega)⟩⟩)
            clear hrg hl0 hc0 HI
            go_wp2
            go_roundw
            case rel => exact ⟨m + 1, by go_num, by omega, HN⟩
            case measure => simp [intOf]; omega
          · intro x' k' w1 cnt1 hlx hfx hrg1 hlt1 hg1 hs1 hen
            obtain ⟨i, p, hi, rfl, hpi, rfl⟩ := pt_inv hfx
            obtain ⟨M'', hst⟩ := HI.out
            have hrne : ∀ k, TFt b (mixF (put G a none) (dropF G [(a : Int) + 1]) left) M'' k → k ≠ w2.heap.size := fun k hk e => by
              rcases hst.2.2.1 k hk with e2 | e2
              · have := HLT2.out k e2; omega
              · omega
            have hf1 : Fr (fun k => k = w2.heap.size) wr w1 := (Fr.refl _ _).grown hg1 (fun k e _ => by injection e with e; exact e.symm)
            have hst1 : RSt w2 w0 B b n (put G a none) M' (mixF (put G a none) (dropF G [(a : Int) + 1]) left) M'' w1 := ⟨hst.1.fr hf1 hrne, hst.2.1.trans hf1 (fun k hk e => absurd hk (by omega)), hst.2.2.1, hst.2.2.2.1, Nat.le_trans hst.2.2.2.2 hf1.size⟩
            have hmi := (mix_at (G1 := put G a none) (G2 := dropF G [(a : Int) + 1]) hlx).trans hpi
            have o := hst1.1.ob i p hi hmi
            have c3 := o.blk.cell 3
            have hl := o.blk.lt
            have hf3 := o.blk.free 3
            dsimp [Sk.rcells] at c3
            rw [hst.2.2.2.1 i] at c3 hl hf3
            have hok := o.ok
            have HD2 : Hid (dropF G [(a : Int) + 1] i = some (dropP p ((a : Int) + 1))) := Lib.hid (drop_two hpi)
            have HBI : Hid ((M'' i).b = (M' i).b) := Lib.hid (hst.2.2.2.1 i)
            have HS1 := Lib.hid hst1
            have HNB : Hid ((M' i).b ≠ b) := Lib.hid (by rw [← hst.2.2.2.1 i]; exact hst1.1.bne hi hmi _ (.inl rfl))
            have HNR : Hid ((M' i).b ≠ w2.heap.size) := Lib.hid (by rw [← hst.2.2.2.1 i]; exact hrne _ (.inr ⟨i, p, hi, hmi, .inl rfl⟩))
            have HOK := Lib.hid hok
            have HMI := Lib.hid hmi
            have HRG1 := Lib.hid hrg1
            have HRG := Lib.hid hrg
            have hql4 : p.q.length ≤ 4 := by
              obtain ⟨k1, k2, k3, k4, k5, k6, k7, -⟩ := hok
              omega
            have HB1 := Lib.hid o.blk
            have HSI : Hid (B ≤ w1.heap.size) := Lib.hid (Nat.le_trans (Nat.le_of_lt (Nat.lt_of_le_of_lt o.low o.blk.lt)) (Nat.le_refl _))
            clear hst hrne hf1 hst1 hmi o hok hpi hfx hg1 hlx hrg1 hrg HI
            obtain ⟨t, ht⟩ : ∃ t : Int, (a : Int) + 1 = t := ⟨_, rfl⟩
            by_cases hpe : p.peer = (a : Int) + 1
            · rw [hpe] at c3
              have HE7 : Hid (TGe w1 B b n (mixF (put G a none) (dropF G [(a : Int) + 1]) left) M'' n (put (mixF (put G a none) (dropF G [(a : Int) + 1]) left) i (some { p with peer := 0 })) M'' (w1.setCell ⟨(M' i).b, 3, none⟩ (.int .i64 0))) := Lib.hid (by
                rw [← HBI.out]
                exact HS1.out.1.poke_e hi HMI.out ((Fr.refl (fun k => k = (M'' i).b) w1).setCell (p := ⟨(M'' i).b, 3, none⟩) (fun _ => rfl) _) (HB1.out.set 3 (.int .i64 0)) rfl (by
                  obtain ⟨k1, k2, k3, k4, k5, k6, k7, k8, k9, k10⟩ := HOK.out
                  exact ⟨k1, k2, k3, k4, k5, k6, k7, by dsimp only; omega, by dsimp only; omega, k10⟩))
              have HDP : Hid (dropP p ((a : Int) + 1) = { p with peer := 0, q := without p.q ((a : Int) + 1) }) := Lib.hid (by unfold dropP; rw [if_pos hpe])
              have HF7 : Hid (Fr (fun k => k = (M' i).b) w1 (w1.setCell ⟨(M' i).b, 3, none⟩ (.int .i64 0))) := Lib.hid ((Fr.refl (fun k => k = (M' i).b) w1).setCell (p := ⟨(M' i).b, 3, none⟩) (fun _ => rfl) _)
              clear hpe ht
              go_upto_region 13 with fail
              generalize w1.setCell ⟨(M' i).b, 3, none⟩ (.int .i64 0) = W7 at HE7 HF7 ⊢
              obtain ⟨pe, hpe⟩ : ∃ pe : Int, 0 = pe := ⟨_, rfl⟩
              rw [hpe] at HE7 HDP
              clear c3 hl hf3 hpe
              have o7 := HE7.out.1.ob i _ hi (put_same _ i _)
              have c4 := o7.blk.cell 4
              have hl4 := o7.blk.lt
              have oq := o7.q
              obtain ⟨Aq, cq, hvq, hnq, hmq⟩ := oq.shape
              dsimp only [Sk.rcells] at c4 hvq hnq oq
              rw [HBI.out] at c4 hl4
              rw [hvq] at c4 oq
              obtain ⟨lq, hlq⟩ : ∃ lq, p.q.length = lq := ⟨_, rfl⟩
              rw [hlq] at c4 oq hnq hql4
              have c4' : W7.cell? ⟨(M' i).b, 4, none⟩ = some (.slice Aq lq cq) := c4
              have HQ7 := Lib.hid oq
              have HLQ := Lib.hid hlq
              have HB7 : Hid (Blk W7 (M' i).b _ 63) := Lib.hid (by rw [← HBI.out]; exact o7.blk)
              have HV7 := Lib.hid hvq
              clear c4 o7 oq hvq hmq hlq
              go_wp2_with fail
              clear c4' hl4
              have hqq := hql4
              go_loopw [10, 52] (fun vl vk wr => ∃ k : Nat, vk = .int .i64 k ∧ k ≤ lq ∧ Hid (Row wr W7.heap.size 3 1 vl (without (p.q.take k) ((a : Int) + 1)).length ((without (p.q.take k) ((a : Int) + 1)).map (Value.int .i64)) ∧ Below W7.heap.size W7 wr)) (fun _ vk _ => lq - (intOf vk).toNat)
              case atStart => exact ⟨0, rfl, by omega, Lib.hid ⟨Row.nil _ _ _ _, Below.refl _ _⟩⟩
              case round =>
                obtain ⟨k, rfl, hk, HR8⟩ := hrel
                obtain ⟨A3, c3, rfl, -, -⟩ := HR8.out.1.shape
                have hwl : (without (p.q.take k) ((a : Int) + 1)).length ≤ 4 := by
                  have h1 := without_le (p.q.take k) ((a : Int) + 1)
                  rw [List.length_take] at h1
                  have := HLQ.out
                  omega
                by_cases hkl : k < lq
                · have hrw := HQ7.out.grow HR8.out.2
                  obtain ⟨bq, oo, rfl, hbq, hcz⟩ := (RD.of_row hrw).at_ hkl
                  have hkx : k < p.q.length := by rw [HLQ.out]; exact hkl
                  have HSK := Lib.hid (fun e => wt_skip (t := (a : Int) + 1) hkx e)
                  have HAD := Lib.hid (fun e => wt_add (t := (a : Int) + 1) hkx e)
                  have hbw := (hrw.lt bq rfl).2
                  clear hrw hbq hkx
                  generalize p.q.getD k 0 = z at *
                  by_cases hz : z = (a : Int) + 1
                  · have hdz : (z != (a : Int) + 1) = false := by simpa using hz
                    have HR9 : Hid (Row wr W7.heap.size 3 1 (.slice A3 (without (p.q.take k) ((a : Int) + 1)).length c3) (without (p.q.take (k + 1)) ((a : Int) + 1)).length ((without (p.q.take (k + 1)) ((a : Int) + 1)).map (Value.int .i64)) ∧ Below W7.heap.size W7 wr) := Lib.hid (by rw [HSK.out hz]; exact HR8.out)
                    clear hz HSK HAD
                    go_wp2
                    go_roundw
                    case rel => exact ⟨k + 1, by go_num, by omega, HR9⟩
                    case measure => simp [intOf]; omega
                  · have hdz : (z != (a : Int) + 1) = true := by simpa using hz
                    have HO := Lib.hid (HAD.out hz)
                    clear hz HSK HAD
                    go_wp2_with (at_builtin; refine wpList_append_row _ rfl (.tmp 59) (.tmp 61) 49 rfl W7.heap.size 3 i0 (.int .i64 0) 1 8 Try.underlying49 ii hz0 hz1 hz2 rfl (by decide) (.slice A3 (without (p.q.take k) ((a : Int) + 1)).length c3) (without (p.q.take k) ((a : Int) + 1)).length ((without (p.q.take k) ((a : Int) + 1)).map (Value.int .i64)) rfl (HR8.out.1.alloc _) (wr.heap.size + 1) (some ⟨wr.heap.size, 0, none⟩) 1 1 [.int .i64 z] rfl ?c1 (by simp [Value.oneCell']) (by unfold maxLen; omega) (by omega) ?c2 ?_; rotate_left; skip)
                    case c1 => exact ⟨rfl, fun _ => ⟨wr.heap.size, 0, rfl, by omega, fun j u hu => by rw [Nat.zero_add]; rw [(Blk.new wr #[.int .i64 z] 3).cell]; simpa using hu⟩⟩
                    case c2 => have := HR8.out.2.size; simp; omega
                    intro A8 c8 w8 hr8 hg8 ho8
                    have HR9 : Hid (Row w8 W7.heap.size 3 1 (.slice A8 ((without (p.q.take k) ((a : Int) + 1)).length + 1) c8) (without (p.q.take (k + 1)) ((a : Int) + 1)).length ((without (p.q.take (k + 1)) ((a : Int) + 1)).map (Value.int .i64)) ∧ Below W7.heap.size W7 w8) := Lib.hid ⟨by
                      rw [HO.out, List.length_append, List.map_append]
                      exact hr8, (HR8.out.2.alloc HR8.out.2.size _).grown hg8 (by have := HR8.out.2.size; simp; omega) (fun j hj => (HR8.out.1.lt j hj).1)⟩
                    clear hr8 hg8 ho8
                    go_wp2
                    go_roundw
                    case rel => exact ⟨k + 1, by go_num, by omega, HR9⟩
                    case measure => simp [intOf]; omega
                · have hkq : k = lq := by omega
                  have htk : p.q.take k = p.q := List.take_of_length_le (by have := HLQ.out; omega)
                  have hb8 := HB7.out.fr (Fr.of_grow HR8.out.2) (fun e => e)
                  have d4 := hb8.cell 4
                  have df := hb8.free 4
                  have dl := hb8.lt
                  dsimp only [Sk.rcells] at d4
                  have d4' : wr.cell? ⟨(M' i).b, 4, none⟩ = some (.slice Aq lq cq) := by rw [← HLQ.out, ← HV7.out]; exact d4
                  have HM : Hid (TGe W7 B b n _ M'' n (put (put (mixF (put G a none) (dropF G [(a : Int) + 1]) left) i (some { p with peer := pe })) i (some { p with peer := pe, q := without p.q ((a : Int) + 1) })) (setM M'' i { M'' i with q := .slice A3 (without (p.q.take k) ((a : Int) + 1)).length c3 }) (wr.setCell ⟨(M' i).b, 4, none⟩ (.slice A3 (without (p.q.take k) ((a : Int) + 1)).length c3))) := Lib.hid (by
                    have hrr := HR8.out.1
                    rw [htk] at hrr ⊢
                    rw [← HBI.out]
                    exact HE7.out.1.turn_q hi (put_same _ i _) ((Fr.of_grow HR8.out.2).mono fun _ _ e => e.elim) (hrr.base_le (Nat.le_trans HSI.out HF7.out.size)) (fun k hk => .inr (hrr.lt k hk).1) (by
                      have := dropP_ok HOK.out ((a : Int) + 1)
                      rw [HDP.out] at this
                      exact this))
                  have HNEW : Hid (∃ M3, RSt w2 w0 B b n (put G a none) M' (mixF (put G a none) (dropF G [(a : Int) + 1]) (fun z => left z && !z.sameKey (.int .i64 ((i : Int) + 1)))) M3 (wr.setCell ⟨(M' i).b, 4, none⟩ (.slice A3 (without (p.q.take k) ((a : Int) + 1)).length c3))) := Lib.hid ⟨_, by
                    rw [mix_step, HD2.out, HDP.out]
                    have := HS1.out.step (by omega) (HE7.out.trans HM.out) (fun c => by
                      by_cases e : c = i
                      · subst e; rw [setM_same]
                      · rw [setM_other _ e])
                    rwa [put_put] at this⟩
                  have hfz : Fr (fun k => k = (M' i).b) w1 (wr.setCell ⟨(M' i).b, 4, none⟩ (.slice A3 (without (p.q.take k) ((a : Int) + 1)).length c3)) := (HF7.out.trans (Fr.of_grow HR8.out.2) (fun _ _ e => e.elim)).setCell (p := ⟨(M' i).b, 4, none⟩) (fun _ => rfl) _
                  have HRG2 := Lib.hid (HRG1.out.kept (fr_grownBy hfz) (fun e => HNB.out (by injection e with e; exact e.symm)) (fun e => HNR.out (by injection e with e; exact e.symm)))
                  have hkn : ¬ k < lq := hkl
                  clear hb8 d4 htk hfz HM hwl
                  generalize (without (p.q.take k) ((a : Int) + 1)).length = nw at *
                  go_wp2
                  go_roundw
                  case rel => exact ⟨_, cnt1, HRG2.out, HNEW⟩
                  case measure => rw [HRG2.out.left_eq, HRG.out.left_eq]; exact hlt1
            · obtain ⟨pe, hpe2⟩ : ∃ pe : Int, p.peer = pe := ⟨_, rfl⟩
              have hdp : (p.peer == (a : Int) + 1) = false := by simpa using hpe
              have HE7' : Hid (TGe w1 B b n (mixF (put G a none) (dropF G [(a : Int) + 1]) left) M'' n (put (mixF (put G a none) (dropF G [(a : Int) + 1]) left) i (some { p with peer := pe })) M'' w1) := Lib.hid (by
                have : ({ p with peer := pe } : Sk) = p := by rw [← hpe2]
                rw [this, put_self HMI.out]; exact HS1.out.1.refl_e)
              have HDP : Hid (dropP p ((a : Int) + 1) = { p with peer := pe, q := without p.q ((a : Int) + 1) }) := Lib.hid (by unfold dropP; rw [if_neg hpe, hpe2])
              clear hpe ht hpe2
              go_upto_region 13 with fail
              clear hdp
              obtain ⟨W7, hW7, HE7, HF7⟩ : ∃ W7, w1 = W7 ∧ Hid (TGe w1 B b n (mixF (put G a none) (dropF G [(a : Int) + 1]) left) M'' n (put (mixF (put G a none) (dropF G [(a : Int) + 1]) left) i (some { p with peer := pe })) M'' W7) ∧ Hid (Fr (fun k => k = (M' i).b) w1 W7) := ⟨w1, rfl, HE7', Lib.hid (Fr.refl _ _)⟩
              rw [hW7]
              clear HE7' hW7
              have hpe : True := trivial
              clear c3 hl hf3 hpe
              have o7 := HE7.out.1.ob i _ hi (put_same _ i _)
              have c4 := o7.blk.cell 4
              have hl4 := o7.blk.lt
              have oq := o7.q
              obtain ⟨Aq, cq, hvq, hnq, hmq⟩ := oq.shape
              dsimp only [Sk.rcells] at c4 hvq hnq oq
              rw [HBI.out] at c4 hl4
              rw [hvq] at c4 oq
              obtain ⟨lq, hlq⟩ : ∃ lq, p.q.length = lq := ⟨_, rfl⟩
              rw [hlq] at c4 oq hnq hql4
              have c4' : W7.cell? ⟨(M' i).b, 4, none⟩ = some (.slice Aq lq cq) := c4
              have HQ7 := Lib.hid oq
              have HLQ := Lib.hid hlq
              have HB7 : Hid (Blk W7 (M' i).b _ 63) := Lib.hid (by rw [← HBI.out]; exact o7.blk)
              have HV7 := Lib.hid hvq
              clear c4 o7 oq hvq hmq hlq
              go_wp2_with fail
              clear c4' hl4
              have hqq := hql4
              go_loopw [10, 52] (fun vl vk wr => ∃ k : Nat, vk = .int .i64 k ∧ k ≤ lq ∧ Hid (Row wr W7.heap.size 3 1 vl (without (p.q.take k) ((a : Int) + 1)).length ((without (p.q.take k) ((a : Int) + 1)).map (Value.int .i64)) ∧ Below W7.heap.size W7 wr)) (fun _ vk _ => lq - (intOf vk).toNat)
              case atStart => exact ⟨0, rfl, by omega, Lib.hid ⟨Row.nil _ _ _ _, Below.refl _ _⟩⟩
              case round =>
                obtain ⟨k, rfl, hk, HR8⟩ := hrel
                obtain ⟨A3, c3, rfl, -, -⟩ := HR8.out.1.shape
                have hwl : (without (p.q.take k) ((a : Int) + 1)).length ≤ 4 := by
                  have h1 := without_le (p.q.take k) ((a : Int) + 1)
                  rw [List.length_take] at h1
                  have := HLQ.out
                  omega
                by_cases hkl : k < lq
                · have hrw := HQ7.out.grow HR8.out.2
                  obtain ⟨bq, oo, rfl, hbq, hcz⟩ := (RD.of_row hrw).at_ hkl
                  have hkx : k < p.q.length := by rw [HLQ.out]; exact hkl
                  have HSK := Lib.hid (fun e => wt_skip (t := (a : Int) + 1) hkx e)
                  have HAD := Lib.hid (fun e => wt_add (t := (a : Int) + 1) hkx e)
                  have hbw := (hrw.lt bq rfl).2
                  clear hrw hbq hkx
                  generalize p.q.getD k 0 = z at *
                  by_cases hz : z = (a : Int) + 1
                  · have hdz : (z != (a : Int) + 1) = false := by simpa using hz
                    have HR9 : Hid (Row wr W7.heap.size 3 1 (.slice A3 (without (p.q.take k) ((a : Int) + 1)).length c3) (without (p.q.take (k + 1)) ((a : Int) + 1)).length ((without (p.q.take (k + 1)) ((a : Int) + 1)).map (Value.int .i64)) ∧ Below W7.heap.size W7 wr) := Lib.hid (by rw [HSK.out hz]; exact HR8.out)
                    clear hz HSK HAD
                    go_wp2
                    go_roundw
                    case rel => exact ⟨k + 1, by go_num, by omega, HR9⟩
                    case measure => simp [intOf]; omega
                  · have hdz : (z != (a : Int) + 1) = true := by simpa using hz
                    have HO := Lib.hid (HAD.out hz)
                    clear hz HSK HAD
                    go_wp2_with (at_builtin; refine wpList_append_row _ rfl (.tmp 59) (.tmp 61) 49 rfl W7.heap.size 3 i0 (.int .i64 0) 1 8 Try.underlying49 ii hz0 hz1 hz2 rfl (by decide) (.slice A3 (without (p.q.take k) ((a : Int) + 1)).length c3) (without (p.q.take k) ((a : Int) + 1)).length ((without (p.q.take k) ((a : Int) + 1)).map (Value.int .i64)) rfl (HR8.out.1.alloc _) (wr.heap.size + 1) (some ⟨wr.heap.size, 0, none⟩) 1 1 [.int .i64 z] rfl ?c1 (by simp [Value.oneCell']) (by unfold maxLen; omega) (by omega) ?c2 ?_; rotate_left; skip)
                    case c1 => exact ⟨rfl, fun _ => ⟨wr.heap.size, 0, rfl, by omega, fun j u hu => by rw [Nat.zero_add]; rw [(Blk.new wr #[.int .i64 z] 3).cell]; simpa using hu⟩⟩
                    case c2 => have := HR8.out.2.size; simp; omega
                    intro A8 c8 w8 hr8 hg8 ho8
                    have HR9 : Hid (Row w8 W7.heap.size 3 1 (.slice A8 ((without (p.q.take k) ((a : Int) + 1)).length + 1) c8) (without (p.q.take (k + 1)) ((a : Int) + 1)).length ((without (p.q.take (k + 1)) ((a : Int) + 1)).map (Value.int .i64)) ∧ Below W7.heap.size W7 w8) := Lib.hid ⟨by
                      rw [HO.out, List.length_append, List.map_append]
                      exact hr8, (HR8.out.2.alloc HR8.out.2.size _).grown hg8 (by have := HR8.out.2.size; simp; omega) (fun j hj => (HR8.out.1.lt j hj).1)⟩
                    clear hr8 hg8 ho8
                    go_wp2
                    go_roundw
                    case rel => exact ⟨k + 1, by go_num, by omega, HR9⟩
                    case measure => simp [intOf]; omega
                · have hkq : k = lq := by omega
                  have htk : p.q.take k = p.q := List.take_of_length_le (by have := HLQ.out; omega)
                  have hb8 := HB7.out.fr (Fr.of_grow HR8.out.2) (fun e => e)
                  have d4 := hb8.cell 4
                  have df := hb8.free 4
                  have dl := hb8.lt
                  dsimp only [Sk.rcells] at d4
                  have d4' : wr.cell? ⟨(M' i).b, 4, none⟩ = some (.slice Aq lq cq) := by rw [← HLQ.out, ← HV7.out]; exact d4
                  have HM : Hid (TGe W7 B b n _ M'' n (put (put (mixF (put G a none) (dropF G [(a : Int) + 1]) left) i (some { p with peer := pe })) i (some { p with peer := pe, q := without p.q ((a : Int) + 1) })) (setM M'' i { M'' i with q := .slice A3 (without (p.q.take k) ((a : Int) + 1)).length c3 }) (wr.setCell ⟨(M' i).b, 4, none⟩ (.slice A3 (without (p.q.take k) ((a : Int) + 1)).length c3))) := Lib.hid (by
                    have hrr := HR8.out.1
                    rw [htk] at hrr ⊢
                    rw [← HBI.out]
                    exact HE7.out.1.turn_q hi (put_same _ i _) ((Fr.of_grow HR8.out.2).mono fun _ _ e => e.elim) (hrr.base_le (Nat.le_trans HSI.out HF7.out.size)) (fun k hk => .inr (hrr.lt k hk).1) (by
                      have := dropP_ok HOK.out ((a : Int) + 1)
                      rw [HDP.out] at this
                      exact this))
                  have HNEW : Hid (∃ M3, RSt w2 w0 B b n (put G a none) M' (mixF (put G a none) (dropF G [(a : Int) + 1]) (fun z => left z && !z.sameKey (.int .i64 ((i : Int) + 1)))) M3 (wr.setCell ⟨(M' i).b, 4, none⟩ (.slice A3 (without (p.q.take k) ((a : Int) + 1)).length c3))) := Lib.hid ⟨_, by
                    rw [mix_step, HD2.out, HDP.out]
                    have := HS1.out.step (by omega) (HE7.out.trans HM.out) (fun c => by
                      by_cases e : c = i
                      · subst e; rw [setM_same]
                      · rw [setM_other _ e])
                    rwa [put_put] at this⟩
                  have hfz : Fr (fun k => k = (M' i).b) w1 (wr.setCell ⟨(M' i).b, 4, none⟩ (.slice A3 (without (p.q.take k) ((a : Int) + 1)).length c3)) := (HF7.out.trans (Fr.of_grow HR8.out.2) (fun _ _ e => e.elim)).setCell (p := ⟨(M' i).b, 4, none⟩) (fun _ => rfl) _
                  have HRG2 := Lib.hid (HRG1.out.kept (fr_grownBy hfz) (fun e => HNB.out (by injection e with e; exact e.symm)) (fun e => HNR.out (by injection e with e; exact e.symm)))
                  have hkn : ¬ k < lq := hkl
                  clear hb8 d4 htk hfz HM hwl
                  generalize (without (p.q.take k) ((a : Int) + 1)).length = nw at *
                  go_wp2
                  go_roundw
                  case rel => exact ⟨_, cnt1, HRG2.out, HNEW⟩
                  case measure => rw [HRG2.out.left_eq, HRG.out.left_eq]; exact hlt1
      · have hme : m = N := by omega
        have HFIN : Hid (TGo w B b n F M (dropF F ns) W) := Lib.hid (by
          obtain ⟨M', hte⟩ := HS.out
          rw [List.take_of_length_le (by rw [HLEN.out]; omega)] at hte
          exact (HE9.out.trans hte).go (by omega))
        have hlt' : ¬ m < N := hlt
        clear HS
        go_wp2
        go_ret
        exact nameQ HR.out HFIN.out
end
end Go.Proofs.Ytmoanemhjcdjkaa
