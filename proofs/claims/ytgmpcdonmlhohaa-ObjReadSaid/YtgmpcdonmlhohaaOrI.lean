/- Contracts of ringref4.ObjOf's closures half and text. -/
import Derived.Test.YtgmpcdonmlhohaaOrH
namespace Go.Proofs.Ytgmpcdonmlhohaa
open Go.RowKit
set_option maxHeartbeats 400000
set_option linter.unusedVariables false
set_option linter.unusedSimpArgs false
/-- A call of a function value with what it has captured, as one step of a region that draws its order. -/
theorem step_call_val {P : Program} {ops : Array Oper} {o : Oper} {a : Act} {w : World} {K : Act → World → Prop} {Q : Exit → Act → World → Prop} {E : Prop} (hgd : o.guard = none) (i : Operand) (f : FuncId) (caps : Array Value) (xs : Array Operand) (ats : Array TypeId)
    (ho : o.op = .call { callee := .value i, args := xs, argTypes := ats }) (hv : a.eval i = .func (.func f) #[] caps) (args : Array Value) (hargs : xs.map a.eval = args) (hrun : (callFunc f (args ++ caps)).run P w = .ok (.enter f (args ++ caps)) w) (Φ : Value → World → Prop)
    (hC : Calls P f (args ++ caps) w fun e w' => ∃ v, e = .returned v ∧ Φ v w') (h : ∀ v w', Φ v w' → K (a.put o.dst v) w') : if Region.wanted o (yielded ops a.tmps) = true then Oper.wp P o a w K Q else E := by
  have hw : Region.wanted o (yielded ops a.tmps) = true := by simp [Region.wanted, hgd]
  rw [if_pos hw]
  unfold Oper.wp
  have e : (execOp a.eval o).run P w = (callFunc f (args ++ caps)).run P w := by
    unfold execOp
    simp [ho, resolve, invoke, hv, hargs, Deferred.ofValue]
  rw [e, hrun, Oper.upon_enter]
  refine hC.mono ?_
  rintro e' w' ⟨v, rfl, hΦ⟩
  exact h v w' hΦ
theorem run48 (args : Array Value) (w : World) : (callFunc 48 args).run Try.prog w = .ok (.enter 48 args) w := by
  have h := Try.func48
  simp [callFunc, go_sem, h, Try.f48]
theorem zeroR_two (s : Rst) : halfR s = ((zeroR 2 s).getD 0 0 + 256 * (zeroR 2 s).getD 1 0, (bytesR ((2 : Nat) : Int) s).2) := by
  rw [halfR_eq]
  unfold zeroR
  have hl : (bytesR ((2 : Nat) : Int) s).2 ≠ none → (bytesR ((2 : Nat) : Int) s).1.length = 2 := by
    cases s with
    | none => simp [bytesR]
    | some xs =>
      by_cases h : xs.length < 2
      · rw [bytesR_short (n := 2) h]; simp
      · rw [bytesR_go (n := 2) h]; simp; omega
  have hn : (bytesR ((2 : Nat) : Int) s).2 = none → (bytesR ((2 : Nat) : Int) s).1 = [] := by
    cases s with
    | none => simp [bytesR]
    | some xs =>
      by_cases h : xs.length < 2
      · rw [bytesR_short (n := 2) h]; simp
      · rw [bytesR_go (n := 2) h]; simp
  by_cases h : (bytesR ((2 : Nat) : Int) s).2 = none
  · rw [if_pos h, hn h]; simp
  · rw [if_neg h, if_neg (by rw [hl h]; omega)]
theorem zeroR_byt (k : Nat) (s : Rst) (h : ∀ xs, s = some xs → Byt xs) : Byt (zeroR k s) := by
  unfold zeroR
  split
  · exact byt_zeros k
  · exact bytesR_b h
theorem zeroR_text (s : Rst) (h : ∀ xs, s = some xs → Byt xs) : ∃ k : Nat, k < 256 ∧ (zeroR 1 s).getD 0 0 = k ∧ (textR s).2 = (bytesR k (bytesR ((1 : Nat) : Int) s).2).2 ∧ ((textR s).2 ≠ none → (textR s).1 = strOfNums (zeroR k (bytesR ((1 : Nat) : Int) s).2)) := by
  have hb := getD_byt (zeroR_byt 1 s h) 0
  refine ⟨((zeroR 1 s).getD 0 0).toNat, by omega, by omega, ?_⟩
  rw [textR_eq s h]
  unfold zeroR at *
  have hq1 : (bytesR ((1 : Nat) : Int) s).2 = none → (bytesR ((1 : Nat) : Int) s).1 = [] := by
    cases s with
    | none => simp [bytesR]
    | some xs =>
      by_cases h : xs.length < 1
      · rw [bytesR_short (n := 1) h]; simp
      · rw [bytesR_go (n := 1) h]; simp
  have hq2 : (bytesR ((1 : Nat) : Int) s).2 ≠ none → (bytesR ((1 : Nat) : Int) s).1.length = 1 := by
    cases s with
    | none => simp [bytesR]
    | some xs =>
      by_cases h : xs.length < 1
      · rw [bytesR_short (n := 1) h]; simp
      · rw [bytesR_go (n := 1) h]; simp; omega
  generalize bytesR ((1 : Nat) : Int) s = q at *
  obtain ⟨l, s1⟩ := q
  dsimp only at *
  cases s1 with
  | none => rw [hq1 rfl]; simp [bytesR]
  | some zs =>
    have hl := hq2 (by simp)
    match l, hl with
    | [x], _ =>
      simp only [reduceCtorEq, if_false, List.getD_cons_zero, List.length_cons, List.length_nil] at hb ⊢
      obtain ⟨m, rfl⟩ : ∃ m : Nat, x = m := ⟨x.toNat, by omega⟩
      simp only [Int.toNat_natCast]
      refine ⟨rfl, fun hne => ?_⟩
      have hne' : (bytesR (m : Int) (some zs)).2 ≠ none := hne
      rw [if_neg hne']
      rfl
def HfP (W : World) (B pb pe pa pt : Nat) (A : Option Addr) (n c : Nat) (xs : List Int) (s : Rst) (e : Ending) (w' : World) : Prop :=
  ∃ a', e = .returned (.int .i64 (halfR s).1) ∧ RfS w' B pb pe pa pt A n c xs (halfR s).2 a' ∧ Fr (RfF pe pa) W w'
theorem hf_of {W w' : World} {B pb pe pa pt n c a : Nat} {A : Option Addr} {xs : List Int} {s s1 : Rst} {x : Int} (e : halfR s = (x, s1)) (h : RfS w' B pb pe pa pt A n c xs s1 a) (hf : Fr (RfF pe pa) W w') : HfP W B pb pe pa pt A n c xs s (.returned (.int .i64 x)) w' := by
  unfold HfP; rw [e]; exact ⟨a, rfl, h, hf⟩
theorem RfS.byt {W : World} {B pb pe pa pt n c a : Nat} {A : Option Addr} {xs : List Int} {s : Rst} (h : RfS W B pb pe pa pt A n c xs s a) : ∀ ys, s = some ys → Byt ys := by
  intro ys e
  rw [h.kst ys e]
  exact fun x hx => h.kr.2 x (List.mem_of_mem_drop hx)
set_option maxRecDepth 100000 in
theorem hf49 (W : World) (B pb pe pa pt : Nat) (A : Option Addr) (n c : Nat) (xs : List Int) (s : Rst) (a : Nat) (h : RfS W B pb pe pa pt A n c xs s a) :
    Calls Try.prog 49 #[.pointer (some ⟨pt, 0, none⟩)] W (HfP W B pb pe pa pt A n c xs s) := by
  have hct := h.kt.cell 0
  have hlt := h.kt.lt
  have HT := Lib.hid (tk48 W B pb pe pa pt A n c xs s a 2 h (by omega))
  have HE := Lib.hid (zeroR_two s)
  unfold tkV at hct
  clear h
  go_enter Try.func49, Try.ntmps49
  go_wp2_with fail
  refine HT.out.mono ?_
  rintro e w1 ⟨A1, c1, a1, rfl, hS, hr, hf⟩
  have HS := Lib.hid hS
  have HF := Lib.hid hf
  change RB w1 w1.heap.size A1 2 (zeroR 2 s) at hr
  obtain ⟨b, o, rfl, hb, c0, -⟩ := hr.at_ (k := 0) (by omega)
  obtain ⟨b', o', e', hb', d1, -⟩ := hr.at_ (k := 1) (by omega)
  injection e' with e'; injection e' with e1 e2
  subst e1; subst e2
  rw [Nat.add_zero] at c0
  have r0 := hr.rng 0
  have r1 := hr.rng 1
  obtain ⟨x, hx⟩ : ∃ x, (zeroR 2 s).getD 0 0 = x := ⟨_, rfl⟩
  obtain ⟨y, hy⟩ : ∃ y, (zeroR 2 s).getD 1 0 = y := ⟨_, rfl⟩
  rw [hx] at c0 r0
  rw [hy] at d1 r1
  have HX : Hid (halfR s = (x + 256 * y, (bytesR ((2 : Nat) : Int) s).2)) := Lib.hid (by rw [HE.out, hx, hy])
  clear hx hy hS hf hr HE HT hct hlt
  go_wp2_with fail
  go_quiet (fail)
  go_wp2
  go_ret
  exact hf_of HX.out (HS.out.drewN _) (HF.out.drewN _)
def TxP (W : World) (B pb pe pa pt : Nat) (A : Option Addr) (n c : Nat) (xs : List Int) (s : Rst) (e : Ending) (w' : World) : Prop :=
  ∃ a' tx, e = .returned (.string tx) ∧ RfS w' B pb pe pa pt A n c xs (textR s).2 a' ∧ ((textR s).2 ≠ none → tx = (textR s).1) ∧ tx.size ≤ 255 ∧ Fr (RfF pe pa) W w'
def TkF (W : World) (B pb pe pa pt : Nat) (A : Option Addr) (n c : Nat) (xs : List Int) (s : Rst) (k : Nat) (v : Value) (w' : World) : Prop :=
  ∃ A' c' a', v = .slice A' k c' ∧ RfS w' B pb pe pa pt A n c xs (bytesR k s).2 a' ∧ RB w' w'.heap.size A' k (zeroR k s) ∧ Fr (RfF pe pa) W w'
theorem tk_f (W : World) (B pb pe pa pt : Nat) (A : Option Addr) (n c : Nat) (xs : List Int) (s : Rst) (a k : Nat) (h : RfS W B pb pe pa pt A n c xs s a) (hk : k ≤ 65535) :
    Calls Try.prog 48 (#[.int .i64 k] ++ #[.pointer (some ⟨pe, 0, none⟩), .pointer (some ⟨pb, 0, none⟩), .pointer (some ⟨pa, 0, none⟩)]) W fun e w' => ∃ v, e = .returned v ∧ TkF W B pb pe pa pt A n c xs s k v w' :=
  (tk48 W B pb pe pa pt A n c xs s a k h hk).mono fun e w' ⟨A', c', a', he, h1, h2, h3⟩ => ⟨_, he, A', c', a', rfl, h1, h2, h3⟩
theorem tx_of {W w' : World} {B pb pe pa pt n c a k : Nat} {A A2 : Option Addr} {xs : List Int} {s s1 : Rst} (e2 : (textR s).2 = (bytesR k s1).2) (e3 : (textR s).2 ≠ none → (textR s).1 = strOfNums (zeroR k s1)) (h : RfS w' B pb pe pa pt A n c xs (bytesR k s1).2 a) (hr : RB w' w'.heap.size A2 k (zeroR k s1)) (hk : k < 256) (hf : Fr (RfF pe pa) W.drew w') : TxP W B pb pe pa pt A n c xs s (.returned (.string (strOfNums (zeroR k s1)))) w' :=
  ⟨a, _, rfl, by rw [e2]; exact h, fun hne => (e3 hne).symm, by rw [strOfNums_size, hr.len]; omega, ⟨hf.os, hf.tape, hf.output, hf.size, hf.block⟩⟩
set_option maxHeartbeats 1000000 in
set_option maxRecDepth 100000 in
theorem tx50 (W : World) (B pb pe pa pt : Nat) (A : Option Addr) (n c : Nat) (xs : List Int) (s : Rst) (a : Nat) (h : RfS W B pb pe pa pt A n c xs s a) :
    Calls Try.prog 50 #[.pointer (some ⟨pt, 0, none⟩)] W (TxP W B pb pe pa pt A n c xs s) := by
  have hct := h.kt.cell 0
  have hlt := h.kt.lt
  have HT := Lib.hid (tk_f W.drew B pb pe pa pt A n c xs s a 1 (h.grow (Below.refl _ _).drew) (by omega))
  have HT2 := Lib.hid (fun w1 s1 a1 k (h1 : RfS w1 B pb pe pa pt A n c xs s1 a1) (hk : k ≤ 65535) => tk_f w1 B pb pe pa pt A n c xs s1 a1 k h1 hk)
  obtain ⟨k, hk, hk1, hk2, hk3⟩ := zeroR_text s h.byt
  have HK1 := Lib.hid hk1
  have HK2 := Lib.hid hk2
  have HK3 := Lib.hid hk3
  unfold tkV at hct
  clear h hk1 hk2 hk3
  have hkw : IntKind.i64.wrap (k : Int) = k := by rw [IntKind.wrap_i64]; omega
  go_enter Try.func50, Try.ntmps50
  go_wp2_with fail
  go_region_law (first | (refine step_call_val rfl (.tmp 3) 48 #[.pointer (some ⟨pe, 0, none⟩), .pointer (some ⟨pb, 0, none⟩), .pointer (some ⟨pa, 0, none⟩)] #[.const (.int .i64 1)] #[3] rfl (by simp [Act.eval, Act.put]) #[.int .i64 1] (by simp [Act.eval, Act.put]) (run48 _ W.drew) (TkF W.drew B pb pe pa pt A n c xs s 1) HT.out ?_; rintro v1 w1 ⟨A1, c1, a1, rfl, hS, hr, hf⟩; have HS := Lib.hid hS; have HF := Lib.hid hf; obtain ⟨b1, o1, rfl, hb1, d0, -⟩ := hr.at_ (k := 0) (by omega); rw [Nat.add_zero, HK1.out] at d0; have hct1 := HS.out.kt.cell 0; unfold tkV at hct1; have hlt1 := HS.out.kt.lt; have HT3 := Lib.hid (HT2.out w1 _ a1 k HS.out (by omega)); clear hS hf hr) | (refine step_call_val rfl (.tmp 2) 48 #[.pointer (some ⟨pe, 0, none⟩), .pointer (some ⟨pb, 0, none⟩), .pointer (some ⟨pa, 0, none⟩)] #[.tmp 7] #[3] rfl (by simp [Act.eval, Act.put]) #[.int .i64 k] (by simp [Act.eval, Act.put, hkw]) (run48 _ w1) (TkF w1 B pb pe pa pt A n c xs (bytesR ((1 : Nat) : Int) s).2 k) HT3.out ?_; rintro v2 w2 ⟨A2, c2, a2, rfl, hS2, hr2, hf2⟩; have HP := Lib.hid (tx_of HK2.out HK3.out hS2 hr2 hk (HF.out.trans' hf2)); have hconv := hr2.conv (P := Try.prog) c2 35 9 5 Try.underlying35 Try.underlying5 Try.underlying9; clear hS2 hr2 hf2) | fail)
  all_goals
    go_wp2
    go_ret
    exact HP.out
end Go.Proofs.Ytgmpcdonmlhohaa
