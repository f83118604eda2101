/- Contracts of ringref4.ObjOf's three closures: take, half, text. -/
import Derived.Test.YtgmpcdonmlhohaaOrG
import Derived.Laws.MakeOwn
namespace Go.Proofs.Ytgmpcdonmlhohaa
open Go.RowKit
set_option maxHeartbeats 400000
set_option linter.unusedVariables false
set_option linter.unusedSimpArgs false
/-- The closure 'take', as a value. -/
def tkV (pb pe pa : Nat) : Value := .func (.func 48) #[] #[.pointer (some ⟨pe, 0, none⟩), .pointer (some ⟨pb, 0, none⟩), .pointer (some ⟨pa, 0, none⟩)]
/-- The reference's reader: the bytes, 'enough', 'at' and 'take'. -/
structure RfS (W : World) (B pb pe pa pt : Nat) (A : Option Addr) (n c : Nat) (xs : List Int) (s : Rst) (a : Nat) : Prop where
  kb : Blk W pb #[.slice A n c] 35
  ke : Blk W pe #[.bool s.isSome] 4
  ka : Blk W pa #[.int .i64 a] 3
  kt : Blk W pt #[tkV pb pe pa] 98
  kr : RB W B A n xs
  knc : n ≤ c
  kcm : c ≤ maxLen
  kle : a ≤ n
  kst : ∀ ys, s = some ys → ys = xs.drop a
  lE : B ≤ pe
  la : B ≤ pa
  lt : B ≤ pt
def RfF (pe pa : Nat) (k : Nat) : Prop := k = pe ∨ k = pa
namespace RfS
variable {W W' : World} {B pb pe pa pt n c a : Nat} {A : Option Addr} {xs : List Int} {s : Rst}
theorem low (h : RfS W B pb pe pa pt A n c xs s a) : B ≤ W.heap.size := by have := h.ke.lt; have := h.lE; omega
theorem grow (h : RfS W B pb pe pa pt A n c xs s a) (hb : Below W.heap.size W W') : RfS W' B pb pe pa pt A n c xs s a := by
  have hf := Fr.of_grow hb
  exact ⟨h.kb.fr hf id, h.ke.fr hf id, h.ka.fr hf id, h.kt.fr hf id, h.kr.below' hb h.low, h.knc, h.kcm, h.kle, h.kst, h.lE, h.la, h.lt⟩
theorem fr {S : Nat → Prop} (h : RfS W B pb pe pa pt A n c xs s a) (hf : Fr S W W') (hS : ∀ k, S k → B ≤ k) (h1 : ¬ S pb) (h2 : ¬ S pe) (h3 : ¬ S pa) (h4 : ¬ S pt) : RfS W' B pb pe pa pt A n c xs s a :=
  ⟨h.kb.fr hf h1, h.ke.fr hf h2, h.ka.fr hf h3, h.kt.fr hf h4, rb_fr h.kr hf h.low hS, h.knc, h.kcm, h.kle, h.kst, h.lE, h.la, h.lt⟩
theorem drewN (h : RfS W B pb pe pa pt A n c xs s a) (k : Nat) : RfS (W.drewN k) B pb pe pa pt A n c xs s a := h.grow (below_drewN (Below.refl _ _) k)
/-- Too little: 'enough' is false. -/
theorem stop (h : RfS W B pb pe pa pt A n c xs s a) : RfS (W.setCell ⟨pe, 0, none⟩ (.bool false)) B pb pe pa pt A n c xs none a ∧ Fr (RfF pe pa) W (W.setCell ⟨pe, 0, none⟩ (.bool false)) := by
  have hf : Fr (fun k => k = pe) W (W.setCell ⟨pe, 0, none⟩ (.bool false)) := fr_set W pe 0 _
  refine ⟨⟨h.kb.fr hf (blk_ne h.kb h.ke (by decide)), ?_, h.ka.fr hf (blk_ne h.ka h.ke (by decide)), h.kt.fr hf (blk_ne h.kt h.ke (by decide)), rb_fr h.kr hf h.low (fun k e => e ▸ h.lE), h.knc, h.kcm, h.kle, fun ys e => by simp at e, h.lE, h.la, h.lt⟩, hf.mono fun k _ e => .inl e⟩
  have := h.ke.set 0 (.bool false)
  simpa using this
/-- k more are taken. -/
theorem go (h : RfS W B pb pe pa pt A n c xs s a) {k : Nat} (hk : a + k ≤ n) {v : Int} (hv : v = ((a + k : Nat) : Int)) (hs : s = some (xs.drop a)) : RfS (W.setCell ⟨pa, 0, none⟩ (.int .i64 v)) B pb pe pa pt A n c xs (some (xs.drop (a + k))) (a + k) ∧ Fr (RfF pe pa) W (W.setCell ⟨pa, 0, none⟩ (.int .i64 v)) := by
  have hf : Fr (fun k => k = pa) W (W.setCell ⟨pa, 0, none⟩ (.int .i64 v)) := fr_set W pa 0 _
  subst hv
  have he := h.ke
  rw [hs] at he
  refine ⟨⟨h.kb.fr hf (blk_ne h.kb h.ka (by decide)), he.fr hf (blk_ne h.ke h.ka (by decide)), ?_, h.kt.fr hf (blk_ne h.kt h.ka (by decide)), rb_fr h.kr hf h.low (fun k e => e ▸ h.la), h.knc, h.kcm, hk, fun ys e => by injection e with e; exact e.symm, h.lE, h.la, h.lt⟩, hf.mono fun k _ e => .inr e⟩
  have := h.ka.set 0 (.int .i64 ((a + k : Nat) : Int))
  simpa using this
end RfS
/-- What 'take' gives: zeros, where there is too little. -/
def zeroR (k : Nat) (s : Rst) : List Int := if (bytesR k s).2 = none then List.replicate k 0 else (bytesR k s).1
def TkP (W : World) (B pb pe pa pt : Nat) (A : Option Addr) (n c : Nat) (xs : List Int) (s : Rst) (k : Nat) (e : Ending) (w' : World) : Prop :=
  ∃ A' c' a', e = .returned (.slice A' k c') ∧ RfS w' B pb pe pa pt A n c xs (bytesR k s).2 a' ∧ RB w' w'.heap.size A' k (zeroR k s) ∧ Fr (RfF pe pa) W w'
theorem byt_zeros (k : Nat) : Byt (List.replicate k 0) := fun x hx => by have := List.eq_of_mem_replicate hx; omega
theorem made_zeros (k : Nat) : madeCells (Value.int .u8 0).cells (k * 1) = ((List.replicate k (0 : Int)).map (Value.int .u8)).toArray := by
  apply Array.ext'
  simp [madeCells, Value.cells]
  apply List.ext_getElem
  · simp
  · intro i h1 h2
    simp [Nat.mod_one]
theorem slice_two (A : Option Addr) (m c a k : Nat) (h : a + k ≤ m) (hm : m ≤ c) (hc : c ≤ 9223372036854775807) : ∃ A', A' = (if c = a then A else A.map (·.add (a * 1))) ∧ ∀ w, (Instr.slice 35 (.slice A m c) (some (.int .i64 a)) (some (.int .i64 ((a : Int) + (k : Int)))) none).run Try.prog w = .ok (.slice A' k (c - a)) w := by
  have hel : Try.prog.elem 35 = 5 := by kernel_rfl
  have hs : ∀ W, (sizeOf 5).run Try.prog W = .ok 1 W := fun W => by kernel_rfl
  refine ⟨_, rfl, fun w => ?_⟩
  rw [run_slice_lh (P := Try.prog) w 35 A m c (by rw [hel]; exact Try.underlying35) .i64 .i64 a (a + k) (by omega) (by omega) (by omega), hel, hs]
  have e1 : ((a : Int) + (k : Int)).toNat = a + k := by omega
  simp [sliced, Result.andThen, e1]
theorem wpList_slice_lh {P : Program} {ops : Array Oper} {rest : List Oper} {o : Oper} {a : Act} {Q : Exit → Act → World → Prop} {w : World} (hg : o.guard = none) (t e : TypeId) (x l h : Operand) (ho : o.op = .slice t x (some l) (some h) none) (ht : P.underlying t = some (.slice e)) (vx vl vh : Value) (hx : a.eval x = vx) (hl : a.eval l = vl) (hh : a.eval h = vh) (v : Value)
    (hrun : (Instr.slice t vx (some vl) (some vh) none).run P w = .ok v w) (hK : wpList P ops Q rest (a.put o.dst v) w) : wpList P ops Q (o :: rest) a w :=
  wpList_plain hg fun K hK' => by
    unfold Oper.wp execOp
    simp only [ho, hx, hl, hh, Option.map_some, Option.map_none, Instr.sliceAt, Sem.run_bind, run_underlying ht, Result.andThen, hrun]
    exact hK' _ _ hK
set_option maxRecDepth 100000 in
theorem tk48 (W : World) (B pb pe pa pt : Nat) (A : Option Addr) (n c : Nat) (xs : List Int) (s : Rst) (a k : Nat) (h : RfS W B pb pe pa pt A n c xs s a) (hk : k ≤ 65535) :
    Calls Try.prog 48 #[.int .i64 k, .pointer (some ⟨pe, 0, none⟩), .pointer (some ⟨pb, 0, none⟩), .pointer (some ⟨pa, 0, none⟩)] W (TkP W B pb pe pa pt A n c xs s k) := by
  have hcb := h.kb.cell 0
  have hce := h.ke.cell 0
  have hca := h.ka.cell 0
  have hlb := h.kb.lt
  have hle := h.ke.lt
  have hla := h.ka.lt
  have hfe := h.ke.free 0
  have hfa := h.ka.free 0
  obtain ⟨i0, hi, hz0, hz1, hz2⟩ := info_parts infoB
  have hmk : ∀ w : World, (Instr.makeSlice 35 (.int .i64 (k : Int)) (.int .i64 (k : Int))).run Try.prog w = .ok (.slice (some ⟨w.heap.size, 0, none⟩) k k) (w.alloc (.cells ((List.replicate k (0 : Int)).map (Value.int .u8)).toArray 5)) := fun w => by
    have := run_make (P := Try.prog) w 35 5 i0 (.int .u8 0) Try.underlying35 hi hz0 .i64 .i64 k k (by omega) (Int.le_refl _) (by rw [hz2]; omega) (by omega)
    rw [hz1] at this
    simp only [Int.toNat_natCast] at this
    rw [this, made_zeros]
  have HR := Lib.hid h
  have hnc := h.knc
  have hcm := h.kcm
  have hle' := h.kle
  have HL := Lib.hid h.kr.len
  unfold maxLen at hcm
  have HZ : Hid (∀ W1, RfS W1 B pb pe pa pt A n c xs none a → Fr (RfF pe pa) W W1 → (bytesR k s).2 = none → TkP W B pb pe pa pt A n c xs s k (.returned (.slice (some ⟨W1.heap.size, 0, none⟩) k k)) (W1.alloc (.cells ((List.replicate k (0 : Int)).map (Value.int .u8)).toArray 5))) := Lib.hid (fun W1 h1 hf e => by
    refine ⟨_, k, a, rfl, ?_, ?_, hf.alloc _⟩
    · rw [e]; exact h1.grow ((Below.refl _ _).alloc (Nat.le_refl _) _)
    · have := RB.new W1 5 (List.replicate k 0) (byt_zeros k)
      rw [List.length_replicate] at this
      unfold zeroR
      rw [if_pos e]
      exact this.more (by simp))
  clear h
  cases s with
  | none =>
    have HP := Lib.hid (HZ.out _ HR.out.stop.1 HR.out.stop.2 rfl)
    clear hnc hcm hle'
    go_enter Try.func48, Try.ntmps48
    go_wp2
    go_ret
    simpa using HP.out
  | some ys =>
    have hy := HR.out.kst ys rfl
    subst hy
    by_cases hlt : n - a < k
    · have e1 : (bytesR k (some (xs.drop a))) = ([], none) := bytesR_short (by simp [HL.out]; omega)
      have HP := Lib.hid (HZ.out _ HR.out.stop.1 HR.out.stop.2 (by rw [e1]))
      have hd : decide ((n : Int) - (a : Int) < (k : Int)) = true := by simp; omega
      have hlt2 : (n : Int) - (a : Int) < (k : Int) := by omega
      clear e1 HL
      go_enter Try.func48, Try.ntmps48
      go_wp2
      go_ret
      simpa using HP.out
    · have e1 : (bytesR k (some (xs.drop a))) = ((xs.drop a).take k, some ((xs.drop a).drop k)) := bytesR_go (by simp [HL.out]; omega)
      have hak : a + k ≤ n := by omega
      obtain ⟨A', hA', hsl⟩ := slice_two A n c a k hak hnc hcm
      have HSL := Lib.hid hsl
      obtain ⟨g1, g2⟩ := HR.out.go (v := (a : Int) + (k : Int)) hak (by simp) rfl
      have HP : Hid (TkP W B pb pe pa pt A n c xs (some (xs.drop a)) k (.returned (.slice A' k (c - a))) (W.setCell ⟨pa, 0, none⟩ (.int .i64 ((a : Int) + (k : Int))))) := Lib.hid (by
        refine ⟨A', _, a + k, rfl, ?_, ?_, g2⟩
        · rw [e1]; dsimp only; rw [List.drop_drop]; exact g1
        · unfold zeroR
          rw [e1, if_neg (by simp)]
          have := rb_take (rb_cut (k := a) g1.kr (by omega) hnc A' hA') (k := k) (by omega)
          exact this.more g1.low)
      have hd : decide ((n : Int) - (a : Int) < (k : Int)) = false := by simp; omega
      have hlt2 : ¬ (n : Int) - (a : Int) < (k : Int) := by omega
      have hle2 : (a : Int) + (k : Int) ≤ n := by omega
      have hw1 : (a : Int) + (k : Int) - (k : Int) = a := by omega
      have hn1 : pb ≠ pa := blk_ne HR.out.kb HR.out.ka (by decide)
      have hn2 : pa ≠ pb := Ne.symm hn1
      clear e1 HL hA' hsl g1 g2 HZ
      go_enter Try.func48, Try.ntmps48
      go_wp2_with (refine wpList_slice_lh rfl 35 5 (.tmp 21) (.tmp 24) (.tmp 25) rfl Try.underlying35 _ _ _ rfl rfl rfl _ (HSL.out _) ?_)
      go_ret
      exact HP.out
end Go.Proofs.Ytgmpcdonmlhohaa
