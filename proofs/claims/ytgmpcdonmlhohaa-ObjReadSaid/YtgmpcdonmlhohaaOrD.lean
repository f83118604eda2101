/- Contracts of Decode's three closures. -/
import Derived.Test.YtgmpcdonmlhohaaOrC
import Derived.Test.YtgmpcdonmlhohaaObG
import Derived.Deep.RegionLaw
import Derived.Deep.Cut
namespace Go.Proofs.Ytgmpcdonmlhohaa
open Go.RowKit
set_option maxHeartbeats 400000
set_option linter.unusedVariables false
set_option linter.unusedSimpArgs false
/-- A call of a Go function as one step of a region that draws its order. -/
theorem step_call_go {P : Program} {ops : Array Oper} {o : Oper} {a : Act} {w : World} {K : Act → World → Prop} {Q : Exit → Act → World → Prop} {E : Prop} (hgd : o.guard = none) (f : FuncId) (xs : Array Operand) (ats : Array TypeId)
    (ho : o.op = .call { callee := .value (.func f), args := xs, argTypes := ats }) (args : Array Value) (hargs : xs.map a.eval = args) (hrun : (callFunc f args).run P w = .ok (.enter f args) w) (Φ : Value → World → Prop)
    (hC : Calls P f args w fun e w' => ∃ v, e = .returned v ∧ Φ v w') (h : ∀ v w', Φ v w' → K (a.put o.dst v) w') : if Region.wanted o (yielded ops a.tmps) = true then Oper.wp P o a w K Q else E := by
  have hw : Region.wanted o (yielded ops a.tmps) = true := by simp [Region.wanted, hgd]
  rw [if_pos hw]
  unfold Oper.wp
  have e : execOp a.eval o = callFunc f args := by
    obtain ⟨dst, op, ty, pos, after, guard⟩ := o
    dsimp only at ho
    subst ho
    rw [execOp_call_go, hargs]
    simp
  rw [e, hrun, Oper.upon_enter]
  refine hC.mono ?_
  rintro e' w' ⟨v, rfl, hΦ⟩
  exact h v w' hΦ
theorem run42 (args : Array Value) (w : World) : (callFunc 42 args).run Try.prog w = .ok (.enter 42 args) w := by
  have h := Try.func42
  simp [callFunc, go_sem, h, Try.f42]
def HalfF (g B : Nat) (a : Int) (s1 : Rst) (w : World) (v : Value) (w' : World) : Prop := v = .int .i64 a ∧ Rd w' g B s1 ∧ Fr (fun k => k = g) w w'
theorem half_f (g B : Nat) (s s1 : Rst) (a : Int) (w : World) (h : Rd w g B s) (hB : B ≤ g) (e : halfR s = (a, s1)) : Calls Try.prog 42 #[.pointer (some ⟨g, 0, none⟩)] w fun e w' => ∃ v, e = .returned v ∧ HalfF g B a s1 w v w' :=
  (half_rd g B s w h hB).mono fun e' w' ⟨he, hd, hf⟩ => by rw [e] at he hd; exact ⟨_, he, rfl, hd, hf⟩
theorem half_at (g B : Nat) (s s1 : Rst) (a : Int) (w : World) (h : Rd w g B s) (hB : B ≤ g) (e : halfR s = (a, s1)) : Calls Try.prog 42 #[.pointer (some ⟨g, 0, none⟩)] w fun e w' => e = .returned (.int .i64 a) ∧ Rd w' g B s1 ∧ Fr (fun k => k = g) w w' :=
  (half_rd g B s w h hB).mono fun e' w' ⟨he, hd, hf⟩ => by rw [e] at he hd; exact ⟨he, hd, hf⟩
theorem text_at (g B : Nat) (s s1 : Rst) (a : ByteArray) (w : World) (h : Rd w g B s) (hB : B ≤ g) (e : textR s = (a, s1)) : Calls Try.prog 45 #[.pointer (some ⟨g, 0, none⟩)] w fun e w' => e = .returned (.string a) ∧ Rd w' g B s1 ∧ Fr (fun k => k = g) w w' :=
  (text_rd g B s w h hB).mono fun e' w' ⟨he, hd, hf⟩ => by rw [e] at he hd; exact ⟨he, hd, hf⟩
theorem half_split (s : Rst) (h : ∀ xs, s = some xs → Byt xs) : ∃ a s1, halfR s = (a, s1) ∧ 0 ≤ a ∧ a < 65536 ∧ ∀ xs, s1 = some xs → Byt xs :=
  ⟨_, _, rfl, (halfR_rng h).1, (halfR_rng h).2, halfR_st h⟩
theorem text_split (s : Rst) (h : ∀ xs, s = some xs → Byt xs) : ∃ a s1, textR s = (a, s1) ∧ a.size ≤ 255 ∧ ∀ xs, s1 = some xs → Byt xs :=
  ⟨_, _, rfl, textR_size h, textR_st h⟩
def WordP (W : World) (B q g ob : Nat) (s : Rst) (v1 vN v3 : Value) (ws bs : List Int) (ns : List Nm) (ds : List Nd) (e : Ending) (w' : World) : Prop :=
  e = .returned (.tuple #[]) ∧ ∃ v0', DS w' B q g ob (wordR s).2 v0' v1 vN v3 (ws ++ [(wordR s).1]) bs ns ds ∧ Below B W w'
theorem below_of {B : Nat} {w w' w'' : World} (h : Below B w w') (h' : Below B w' w'') : Below B w w'' := h.trans h'
theorem u32_word {a b : Int} (ha : 0 ≤ a ∧ a < 65536) (hb : 0 ≤ b ∧ b < 65536) : bits .or .u32 a (b * 65536) = a + 65536 * b := by
  rw [show bits .or .u32 a (b * 65536) = bits .or .u32 (b * 65536) a from by unfold bits; simp [Nat.or_comm]]
  rw [bits_join .u32 32 (by decide) (fun n h0 h1 => by rw [IntKind.wrap_u32]; omega) 16 (b * 65536) a (by omega) (by omega) (by omega) (by omega) (by omega) (by omega)]
  omega
theorem w41_done {W w1 w8 w9 : World} {B q g ob : Nat} {s s2 : Rst} {v0 v1 vN v3 : Value} {ws bs : List Int} {ns : List Nm} {ds : List Nd} {a b x : Int} {A9 : Option Addr} {c9 : Nat} {X : Obj}
    (h1 : Below B W w1) (h2 : Below B w1 w8) (h8 : DS (w8.alloc X) B q g ob s2 v0 v1 vN v3 ws bs ns ds) (hB : B ≤ w8.heap.size) (hx : x = a + 65536 * b) (hw : wordR s = (a + 65536 * b, s2))
    (hr : Row w9 B 22 1 (.slice A9 (ws.length + 1) c9) (ws.length + 1) (ws.map (Value.int .u32) ++ [.int .u32 x])) (hg : (w8.alloc X).grownBy w9 v0.ownBlock) (ha : 0 ≤ a ∧ a < 65536) (hb : 0 ≤ b ∧ b < 65536) :
    WordP W B q g ob s v1 vN v3 ws bs ns ds (.returned (.tuple #[])) (w9.setCell ⟨ob, 0, none⟩ (.slice A9 (ws.length + 1) c9)) := by
  have e : (ws ++ [x]).length = ws.length + 1 := by simp
  obtain ⟨r1, r2⟩ := h8.put0 (v' := .slice A9 (ws.length + 1) c9) (zs := ws ++ [x]) (Fr.of_grown hg) (by rw [e]; exact ⟨A9, c9, rfl, by simpa using hr⟩) (fun y hy => by
    rcases List.mem_append.1 hy with h | h
    · exact h8.fw y h
    · simp at h; omega)
  refine ⟨rfl, .slice A9 (ws.length + 1) c9, ?_, (h1.trans (h2.alloc hB X)).trans r2⟩
  rw [hw]
  subst hx
  exact r1
set_option maxHeartbeats 1000000 in
set_option maxRecDepth 100000 in
theorem cl41 (W : World) (B q g ob : Nat) (s : Rst) (v0 v1 vN v3 : Value) (ws bs : List Int) (ns : List Nm) (ds : List Nd) (h : DS W B q g ob s v0 v1 vN v3 ws bs ns ds) (hn : ws.length ≤ 70000) :
    Calls Try.prog 41 #[.pointer (some ⟨q, 0, none⟩), .pointer (some ⟨ob, 0, none⟩)] W (WordP W B q g ob s v1 vN v3 ws bs ns ds) := by
  obtain ⟨i0, hi, hz0, hz1, hz2⟩ := info_parts infoW
  have hcv := h.var.cell
  have hlv := h.var.lt
  have H0 := Lib.hid h
  obtain ⟨a, s1, hs1, ra0, ra1, hb1⟩ := half_split s h.rd.byt
  obtain ⟨b, s2, hs2, rb0, rb1, hb2⟩ := half_split s1 hb1
  have HW : Hid (wordR s = (a + 65536 * b, s2)) := Lib.hid (by unfold wordR; rw [hs1]; dsimp only; rw [hs2])
  have HS1 := Lib.hid hs1
  have HS2 := Lib.hid hs2
  clear hs1 hs2 hb1 hb2 h
  have hwa : IntKind.u32.wrap a = a := by rw [IntKind.wrap_u32]; omega
  have hwb : IntKind.u32.wrap b = b := by rw [IntKind.wrap_u32]; omega
  have HV : Hid (bits .or .u32 a (IntKind.u32.wrap (b * 65536)) = a + 65536 * b) := Lib.hid (by rw [show IntKind.u32.wrap (b * 65536) = b * 65536 by rw [IntKind.wrap_u32]; omega]; exact u32_word ⟨ra0, ra1⟩ ⟨rb0, rb1⟩)
  go_enter Try.func41, Try.ntmps41
  go_wp2_with fail
  refine (half_at g B s s1 a W H0.out.rd H0.out.lg HS1.out).mono ?_
  rintro e w1 ⟨rfl, hd, hf⟩
  have H1 := Lib.hid (H0.out.step hd hf)
  have HB1 := Lib.hid (hf.below H0.out.low (fun k e => e ▸ H0.out.lg))
  clear hd hf hcv hlv
  have hcv := H1.out.var.cell
  have hlv := H1.out.var.lt
  have hcb := H1.out.blk.cell
  have hlb := H1.out.blk.lt
  have HHC := Lib.hid (half_f g B s1 s2 b w1.drew H1.out.drew.rd H1.out.lg HS2.out)
  have HF2 : Hid (∀ v w', HalfF g B b s2 w1.drew v w' → v = .int .i64 b ∧ DS w' B q g ob s2 v0 v1 vN v3 ws bs ns ds ∧ Below B w1 w') := Lib.hid (fun v w' ⟨e, hd, hf⟩ => ⟨e, H1.out.drew.step hd hf, ((Below.refl _ _).drew).trans (hf.below H1.out.low (fun k e => e ▸ H1.out.lg))⟩)
  obtain ⟨A0, c0, rfl, -⟩ := H1.out.o0
  go_wp2_with fail
  go_region_law (first | (refine step_call_go rfl 42 #[.tmp 9] #[93] rfl #[.pointer (some ⟨g, 0, none⟩)] (by simp [Act.eval, Act.put]) (run42 #[.pointer (some ⟨g, 0, none⟩)] w1.drew) (HalfF g B b s2 w1.drew) HHC.out ?_; intro v8 w8 hh8; obtain ⟨rfl, h8, hb8⟩ := HF2.out v8 w8 hh8; have H8 := Lib.hid h8; have HB8 := Lib.hid hb8; have k80 := h8.blk.cell 0; have kl8 := h8.blk.lt; have HR8 := Lib.hid (h8.alloc (.cells #[.int .u32 (bits .or .u32 a (IntKind.u32.wrap (b * 65536)))] 22)); clear h8 hb8 hh8) | (refine step_append_row rfl (.tmp 7) (.tmp 14) 30 rfl B 22 i0 (.int .u32 0) 1 4 Try.underlying30 hi hz0 hz1 hz2 rfl (by decide) (.slice A0 ws.length c0) ws.length (ws.map (Value.int .u32)) (by simp [Act.eval, Act.put]) HR8.out.o0.row (w8.heap.size + 1) (some ⟨w8.heap.size, 0, none⟩) 1 1 [.int .u32 (bits .or .u32 a (IntKind.u32.wrap (b * 65536)))] (by simp [Act.eval, Act.put]) (reads_one w8 (.int .u32 (bits .or .u32 a (IntKind.u32.wrap (b * 65536)))) 22) (by simp [Value.oneCell']) (by unfold maxLen; omega) (by omega) (HR8.out.low) ?_; intro A9 c9 w9 hr9 hg9 ho9; have hf9 := Fr.of_grown hg9; have kb9 := HR8.out.blk.fr hf9 (fun e => HR8.out.o0.ne_blk HR8.out.blk (by decide) e); have k90 := kb9.cell 0; have kl9 := kb9.lt; have kf9 := kb9.free 0; have HP9 := Lib.hid (w41_done HB1.out HB8.out HR8.out H8.out.low HV.out HW.out hr9 hg9 ⟨ra0, ra1⟩ ⟨rb0, rb1⟩); clear kb9 hf9 hr9 hg9 ho9) | fail)
  all_goals
    go_wp2
    exact bodyPost_ret (v := .tuple #[]) (by simp [results, Try.results41, go_sem]) rfl HP9.out
def NmP (W : World) (B q g ob : Nat) (s : Rst) (v0 v1 v3 : Value) (ws bs : List Int) (ns : List Nm) (ds : List Nd) (e : Ending) (w' : World) : Prop :=
  e = .returned (.tuple #[]) ∧ ∃ vN', DS w' B q g ob (nmR s).2 v0 v1 vN' v3 ws bs (ns ++ [(nmR s).1]) ds ∧ Below B W w'
def NdP (W : World) (B q g ob : Nat) (s : Rst) (v0 v1 vN : Value) (ws bs : List Int) (ns : List Nm) (ds : List Nd) (e : Ending) (w' : World) : Prop :=
  e = .returned (.tuple #[]) ∧ ∃ v3', DS w' B q g ob (ndR s).2 v0 v1 vN v3' ws bs ns (ds ++ [(ndR s).1]) ∧ Below B W w'
theorem i64_and3' (n : Int) : bits .and .i64 n 3 = n % 4 := by
  have h3 : (BitVec.ofInt 64 3).toNat = 2 ^ 2 - 1 := by decide
  have key : (BitVec.ofInt 64 n &&& BitVec.ofInt 64 3).toNat = (n % ((2 ^ 64 : Nat) : Int)).toNat % 2 ^ 2 := by
    rw [BitVec.toNat_and, BitVec.toNat_ofInt, h3, Nat.and_two_pow_sub_one_eq_mod]
  show IntKind.i64.wrap ((BitVec.ofInt 64 n &&& BitVec.ofInt 64 3).toNat : Nat) = n % 4
  rw [key, IntKind.wrap_i64]
  omega
/-- Beside all that: a new block of the closure's own. -/
structure DL (W : World) (B q g ob k t : Nat) (cs : Array Value) (s : Rst) (v0 v1 vN v3 : Value) (ws bs : List Int) (ns : List Nm) (ds : List Nd) : Prop where
  ds : DS W B q g ob s v0 v1 vN v3 ws bs ns ds
  blk : Blk W k cs t
  low : B ≤ k
  nN : vN.ownBlock ≠ some k
  n3 : v3.ownBlock ≠ some k
namespace DL
variable {W W' : World} {B q g ob k t : Nat} {s s' : Rst} {v0 v1 vN v3 : Value} {ws bs : List Int} {ns : List Nm} {ds : List Nd} {cs : Array Value}
theorem new (h : DS W B q g ob s v0 v1 vN v3 ws bs ns ds) (cs : Array Value) (t : TypeId) : DL (W.alloc (.cells cs t)) B q g ob W.heap.size t cs s v0 v1 vN v3 ws bs ns ds :=
  ⟨h.alloc _, Blk.new W cs t, h.low, fun e => by have := (h.oN.row.lt _ e).2; omega, fun e => by have := (h.o3.row.lt _ e).2; omega⟩
theorem step (h : DL W B q g ob k t cs s v0 v1 vN v3 ws bs ns ds) (ht : t ≠ 95) (hd : Rd W' g B s') (hf : Fr (fun k => k = g) W W') : DL W' B q g ob k t cs s' v0 v1 vN v3 ws bs ns ds := by
  obtain ⟨cs', hg⟩ := h.ds.rd.blk
  exact ⟨h.ds.step hd hf, h.blk.fr hf (blk_ne h.blk hg ht), h.low, h.nN, h.n3⟩
theorem set (h : DL W B q g ob k t cs s v0 v1 vN v3 ws bs ns ds) (ht : t = 69 ∨ t = 79) (j : Nat) (u : Value) : DL (W.setCell ⟨k, j, none⟩ u) B q g ob k t (cs.setIfInBounds j u) s v0 v1 vN v3 ws bs ns ds := by
  obtain ⟨cs', hg⟩ := h.ds.rd.blk
  have hk := h.blk
  have hf : Fr (fun i => i = k) W (W.setCell ⟨k, j, none⟩ u) := fr_set W k j u
  refine ⟨?_, hk.set j u, h.low, h.nN, h.n3⟩
  have d := h.ds
  exact ⟨d.rd.fr hf d.low (fun i e => e ▸ h.low) (blk_ne hg hk (by rcases ht with rfl | rfl <;> decide)), d.var.fr hf (blk_ne d.var hk (by rcases ht with rfl | rfl <;> decide)), d.blk.fr hf (blk_ne d.blk hk (by rcases ht with rfl | rfl <;> decide)), d.o0.fr hf (fun i hi e => d.o0.ne_blk hk (by rcases ht with rfl | rfl <;> decide) (e ▸ hi)), d.o1.fr hf (fun i hi e => d.o1.ne_blk hk (by rcases ht with rfl | rfl <;> decide) (e ▸ hi)), d.oN.fr hf (fun i hi e => h.nN (e ▸ hi)), d.o3.fr hf (fun i hi e => h.n3 (e ▸ hi)), d.lq, d.lg, d.lo, d.fw, d.fb, d.fn, d.fd⟩
end DL
theorem fine_int {x : Int} (h : 0 ≤ x ∧ x < 65536) : (Lit.int .i64 x).wf = true := by
  simp [Lit.wf, IntKind.min, IntKind.max, IntKind.signed, IntKind.bits]; omega
theorem w44_done {W w5 w9 : World} {B q g ob : Nat} {s s3 : Rst} {v0 v1 vN v3 : Value} {ws bs : List Int} {ns : List Nm} {ds : List Nd} {tx : ByteArray} {a b : Int} {A9 : Option Addr} {c9 : Nat} {X : Obj}
    (h1 : Below B W w5) (hB : B ≤ w5.heap.size) (h8 : DS (w5.alloc X) B q g ob s3 v0 v1 vN v3 ws bs ns ds) (hw : nmR s = (⟨tx, a % 4, b, decide (4 ≤ a)⟩, s3))
    (hr : Row w9 B 69 4 (.slice A9 (ns.length + 1) c9) (ns.length + 1) (ns.flatMap Nm.cells ++ [.string tx, .int .i64 (a % 4), .int .i64 b, .bool (decide (4 ≤ a))])) (hg : (w5.alloc X).grownBy w9 vN.ownBlock) (ht : tx.size ≤ 9223372036854775807) (ha : 0 ≤ a ∧ a < 65536) (hb : 0 ≤ b ∧ b < 65536) :
    NmP W B q g ob s v0 v1 v3 ws bs ns ds (.returned (.tuple #[])) (w9.setCell ⟨ob, 2, none⟩ (.slice A9 (ns.length + 1) c9)) := by
  have e : (ns ++ [(⟨tx, a % 4, b, decide (4 ≤ a)⟩ : Nm)]).length = ns.length + 1 := by simp
  obtain ⟨r1, r2⟩ := h8.putN (v' := .slice A9 (ns.length + 1) c9) (zs := ns ++ [⟨tx, a % 4, b, decide (4 ≤ a)⟩]) (Fr.of_grown hg) (by rw [e]; exact ⟨A9, c9, rfl, by rw [List.flatMap_append]; exact hr⟩) (fun y hy => by
    rcases List.mem_append.1 hy with h | h
    · exact h8.fn y h
    · simp at h
      subst h
      exact ⟨ht, fine_int (by dsimp only; omega), fine_int hb⟩)
  refine ⟨rfl, .slice A9 (ns.length + 1) c9, ?_, (h1.alloc hB X).trans r2⟩
  rw [hw]
  exact r1
set_option maxHeartbeats 1000000 in
set_option maxRecDepth 100000 in
theorem cl44 (W : World) (B q g ob : Nat) (s : Rst) (v0 v1 vN v3 : Value) (ws bs : List Int) (ns : List Nm) (ds : List Nd) (h : DS W B q g ob s v0 v1 vN v3 ws bs ns ds) (hn : ns.length ≤ 70000) :
    Calls Try.prog 44 #[.pointer (some ⟨q, 0, none⟩), .pointer (some ⟨ob, 0, none⟩)] W (NmP W B q g ob s v0 v1 v3 ws bs ns ds) := by
  obtain ⟨i0, hi, hz0, hz1, hz2⟩ := info_parts infoN
  have hcv := h.var.cell
  have hlv := h.var.lt
  have H0 := Lib.hid h
  obtain ⟨tx, s1, hs1, ra0, hb1⟩ := text_split s h.rd.byt
  obtain ⟨a, s2, hs2, rb0, rb1, hb2⟩ := half_split s1 hb1
  obtain ⟨b, s3, hs3, rc0, rc1, hb3⟩ := half_split s2 hb2
  have HW : Hid (nmR s = (⟨tx, a % 4, b, decide (4 ≤ a)⟩, s3)) := Lib.hid (by unfold nmR; rw [hs1]; dsimp only; rw [hs2]; dsimp only; rw [hs3])
  have HS1 := Lib.hid hs1
  have HS2 := Lib.hid hs2
  have HS3 := Lib.hid hs3
  clear hs1 hs2 hs3 hb1 hb2 hb3 h
  go_enter Try.func44, Try.ntmps44
  go_wp2_with fail
  refine (text_at g B s s1 tx W H0.out.rd H0.out.lg HS1.out).mono ?_
  rintro e w1 ⟨rfl, hd, hf⟩
  have H1 := Lib.hid (H0.out.step hd hf)
  have HB1 := Lib.hid (hf.below H0.out.low (fun k e => e ▸ H0.out.lg))
  clear hd hf hcv hlv
  go_upto_region 1 with (fail)
  have HL1 := Lib.hid (DL.new H1.out #[.string tx, .int .i64 0, .int .i64 0, .bool false] 69)
  have HB2 := Lib.hid (HB1.out.trans ((Below.refl B w1).alloc H1.out.low (.cells #[.string tx, .int .i64 0, .int .i64 0, .bool false] 69)))
  clear H1 HB1
  generalize w1.alloc (.cells #[.string tx, .int .i64 0, .int .i64 0, .bool false] 69) = w2 at *
  generalize w1.heap.size = k at *
  have hcv := HL1.out.ds.var.cell
  have hlv := HL1.out.ds.var.lt
  go_wp2_with fail
  refine (half_at g B s1 s2 a w2 HL1.out.ds.rd HL1.out.ds.lg HS2.out).mono ?_
  rintro e w3 ⟨rfl, hd, hf⟩
  have HL3 := Lib.hid (HL1.out.step (by decide) hd hf)
  have HB3 := Lib.hid (HB2.out.trans (hf.below HL1.out.ds.low (fun k e => e ▸ HL1.out.ds.lg)))
  clear hd hf hcv hlv HL1 HB2
  have hcv := HL3.out.ds.var.cell
  have hlv := HL3.out.ds.var.lt
  have hand : bits .and .i64 a 3 = a % 4 := i64_and3' a
  go_wp2_with fail
  refine (half_at g B s2 s3 b w3 HL3.out.ds.rd HL3.out.ds.lg HS3.out).mono ?_
  rintro e w4 ⟨rfl, hd, hf⟩
  have HL4 := Lib.hid (HL3.out.step (by decide) hd hf)
  have HB4 := Lib.hid (HB3.out.trans (hf.below HL3.out.ds.low (fun k e => e ▸ HL3.out.ds.lg)))
  clear hd hf hcv hlv HL3 HB3
  have hck := HL4.out.blk.cell
  have hlk := HL4.out.blk.lt
  have hfk := HL4.out.blk.free
  go_upto_region 3 with (fail)
  have HL5 := Lib.hid (((HL4.out.set (.inl rfl) 1 (.int .i64 (a % 4))).set (.inl rfl) 3 (.bool (decide (4 ≤ a)))).set (.inl rfl) 2 (.int .i64 b))
  have HB5 := Lib.hid (((HB4.out.setCell (p := ⟨k, 1, none⟩) HL4.out.low (.int .i64 (a % 4))).setCell (p := ⟨k, 3, none⟩) HL4.out.low (.bool (decide (4 ≤ a)))).setCell (p := ⟨k, 2, none⟩) HL4.out.low (.int .i64 b))
  clear hck hlk hfk HL4 HB4
  generalize (((w4.setCell ⟨k, 1, none⟩ (.int .i64 (a % 4))).setCell ⟨k, 3, none⟩ (.bool (decide (4 ≤ a)))).setCell ⟨k, 2, none⟩ (.int .i64 b)) = w5 at *
  have hck := HL5.out.blk.cell
  have hlk := HL5.out.blk.lt
  have hcb := HL5.out.ds.blk.cell
  have hlb := HL5.out.ds.blk.lt
  obtain ⟨A0, c0, rfl, -⟩ := HL5.out.ds.oN
  have HA := Lib.hid (HL5.out.ds.alloc (.cells #[.string tx, .int .i64 (a % 4), .int .i64 b, .bool (decide (4 ≤ a))] 69))
  have HRD := Lib.hid (ob_reads w5 69 4 1 [.string tx, .int .i64 (a % 4), .int .i64 b, .bool (decide (4 ≤ a))] rfl)
  go_wp2_with (at_builtin; refine wpList_append_row _ rfl (.tmp 19) (.tmp 21) 36 rfl B 69 i0 (.agg #[.string ByteArray.empty, .int .i64 0, .int .i64 0, .bool false]) 4 40 Try.underlying36 hi hz0 hz1 hz2 rfl (by decide) (.slice A0 ns.length c0) ns.length (ns.flatMap Nm.cells) rfl HA.out.oN.row (w5.heap.size + 1) (some ⟨w5.heap.size, 0, none⟩) 1 1 [.string tx, .int .i64 (a % 4), .int .i64 b, .bool (decide (4 ≤ a))] rfl HRD.out (one_nm tx (a % 4) b (decide (4 ≤ a))) (by unfold maxLen; omega) (by omega) HA.out.low ?_)
  intro A9 c9 w9 hr9 hg9 ho9
  have kb9 := HA.out.blk.fr (Fr.of_grown hg9) (fun e => HA.out.oN.ne_blk HA.out.blk (by decide) e)
  have k90 := kb9.cell 2
  have kl9 := kb9.lt
  have kf9 := kb9.free 2
  have HP9 := Lib.hid (w44_done HB5.out HL5.out.ds.low HA.out HW.out hr9 hg9 (by omega) ⟨rb0, rb1⟩ ⟨rc0, rc1⟩)
  clear kb9 hr9 hg9 ho9
  go_wp2
  exact bodyPost_ret (v := .tuple #[]) (by simp [results, Try.results44, go_sem]) rfl HP9.out

end Go.Proofs.Ytgmpcdonmlhohaa
