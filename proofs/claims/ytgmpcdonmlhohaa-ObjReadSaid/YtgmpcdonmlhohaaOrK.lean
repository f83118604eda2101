/- The closures' contracts with the object beside them; the ends of ObjOf's rounds. -/
import Derived.Test.YtgmpcdonmlhohaaOrJ
namespace Go.Proofs.Ytgmpcdonmlhohaa
open Go.RowKit
set_option maxHeartbeats 400000
set_option linter.unusedVariables false
set_option linter.unusedSimpArgs false
section
variable {W : World} {B pb pe pa pt ob n c a : Nat} {A : Option Addr} {xs : List Int} {s s1 : Rst} {v0 v1 vN v3 : Value} {ws bs : List Int} {ns : List Nm} {ds : List Nd}
def HRo (W : World) (B pb pe pa pt ob : Nat) (A : Option Addr) (n c : Nat) (xs : List Int) (s : Rst) (v0 v1 vN v3 : Value) (ws bs : List Int) (ns : List Nm) (ds : List Nd) (w' : World) : Prop := ∃ a', RO w' B pb pe pa pt ob A n c xs s a' v0 v1 vN v3 ws bs ns ds ∧ Below B W w'
theorem half_ro (h : RO W B pb pe pa pt ob A n c xs s a v0 v1 vN v3 ws bs ns ds) {x : Int} (e : halfR s = (x, s1)) : Calls Try.prog 49 #[.pointer (some ⟨pt, 0, none⟩)] W fun e w' => e = .returned (.int .i64 x) ∧ HRo W B pb pe pa pt ob A n c xs s1 v0 v1 vN v3 ws bs ns ds w' :=
  (hf49 W B pb pe pa pt A n c xs s a h.r).mono fun e' w' ⟨a', he, hr, hf⟩ => by
    rw [e] at he hr
    obtain ⟨r1, r2⟩ := h.step hr hf
    exact ⟨he, a', r1, r2⟩
def HRoF (W : World) (B pb pe pa pt ob : Nat) (A : Option Addr) (n c : Nat) (xs : List Int) (s : Rst) (x : Int) (v0 v1 vN v3 : Value) (ws bs : List Int) (ns : List Nm) (ds : List Nd) (v : Value) (w' : World) : Prop := v = .int .i64 x ∧ HRo W B pb pe pa pt ob A n c xs s v0 v1 vN v3 ws bs ns ds w'
theorem half_rof (h : RO W B pb pe pa pt ob A n c xs s a v0 v1 vN v3 ws bs ns ds) {x : Int} (e : halfR s = (x, s1)) : Calls Try.prog 49 (#[] ++ #[.pointer (some ⟨pt, 0, none⟩)]) W fun e w' => ∃ v, e = .returned v ∧ HRoF W B pb pe pa pt ob A n c xs s1 x v0 v1 vN v3 ws bs ns ds v w' :=
  (half_ro h e).mono fun e' w' ⟨he, hr⟩ => ⟨_, he, rfl, hr⟩
def TRo (W : World) (B pb pe pa pt ob : Nat) (A : Option Addr) (n c : Nat) (xs : List Int) (s : Rst) (tx : ByteArray) (v0 v1 vN v3 : Value) (ws bs : List Int) (ns : List Nm) (ds : List Nd) (e : Ending) (w' : World) : Prop := ∃ a' tx', e = .returned (.string tx') ∧ (s ≠ none → tx' = tx) ∧ tx'.size ≤ 255 ∧ RO w' B pb pe pa pt ob A n c xs s a' v0 v1 vN v3 ws bs ns ds ∧ Below B W w'
theorem text_ro (h : RO W B pb pe pa pt ob A n c xs s a v0 v1 vN v3 ws bs ns ds) {tx : ByteArray} (e : textR s = (tx, s1)) : Calls Try.prog 50 #[.pointer (some ⟨pt, 0, none⟩)] W (TRo W B pb pe pa pt ob A n c xs s1 tx v0 v1 vN v3 ws bs ns ds) :=
  (tx50 W B pb pe pa pt A n c xs s a h.r).mono fun e' w' ⟨a', tx', he, hr, h1, h2, hf⟩ => by
    rw [e] at hr h1
    obtain ⟨r1, r2⟩ := h.step hr hf
    exact ⟨a', tx', he, h1, h2, r1, r2⟩
def TkRo (W : World) (B pb pe pa pt ob : Nat) (A : Option Addr) (n c : Nat) (xs : List Int) (s : Rst) (k : Nat) (v0 v1 vN v3 : Value) (ws bs : List Int) (ns : List Nm) (ds : List Nd) (v : Value) (w' : World) : Prop := ∃ A' c' a', v = .slice A' k c' ∧ RB w' w'.heap.size A' k (zeroR k s) ∧ RO w' B pb pe pa pt ob A n c xs (bytesR k s).2 a' v0 v1 vN v3 ws bs ns ds ∧ Below B W w'
theorem take_ro (h : RO W B pb pe pa pt ob A n c xs s a v0 v1 vN v3 ws bs ns ds) {k : Nat} (hk : k ≤ 65535) : Calls Try.prog 48 (#[.int .i64 k] ++ #[.pointer (some ⟨pe, 0, none⟩), .pointer (some ⟨pb, 0, none⟩), .pointer (some ⟨pa, 0, none⟩)]) W fun e w' => ∃ v, e = .returned v ∧ TkRo W B pb pe pa pt ob A n c xs s k v0 v1 vN v3 ws bs ns ds v w' :=
  (tk48 W B pb pe pa pt A n c xs s a k h.r hk).mono fun e' w' ⟨A', c', a', he, hr, hz, hf⟩ => by
    obtain ⟨r1, r2⟩ := h.step hr hf
    exact ⟨_, he, A', c', a', rfl, hz, r1, r2⟩
end
theorem run49 (args : Array Value) (w : World) : (callFunc 49 args).run Try.prog w = .ok (.enter 49 args) w := by
  have h := Try.func49
  simp [callFunc, go_sem, h, Try.f49]
/-- A block of the round's own beside all that. -/
structure RL (W : World) (B pb pe pa pt ob : Nat) (A : Option Addr) (n c : Nat) (xs : List Int) (k t : Nat) (cs : Array Value) (s : Rst) (a : Nat) (v0 v1 vN v3 : Value) (ws bs : List Int) (ns : List Nm) (ds : List Nd) : Prop where
  ro : RO W B pb pe pa pt ob A n c xs s a v0 v1 vN v3 ws bs ns ds
  blk : Blk W k cs t
  low : B ≤ k
  nN : vN.ownBlock ≠ some k
  n3 : v3.ownBlock ≠ some k
namespace RL
variable {W W' : World} {B pb pe pa pt ob n c a a' k t : Nat} {A : Option Addr} {xs : List Int} {cs : Array Value} {s s' : Rst} {v0 v1 vN v3 : Value} {ws bs : List Int} {ns : List Nm} {ds : List Nd}
theorem new (h : RO W B pb pe pa pt ob A n c xs s a v0 v1 vN v3 ws bs ns ds) (cs : Array Value) (t : TypeId) : RL (W.alloc (.cells cs t)) B pb pe pa pt ob A n c xs W.heap.size t cs s a v0 v1 vN v3 ws bs ns ds :=
  ⟨h.alloc _, Blk.new W cs t, h.low, fun e => by have := (h.o.oN.row.lt _ e).2; omega, fun e => by have := (h.o.o3.row.lt _ e).2; omega⟩
theorem half (h : RL W B pb pe pa pt ob A n c xs k t cs s a v0 v1 vN v3 ws bs ns ds) (ht : t = 69 ∨ t = 79) {x : Int} (e : halfR s = (x, s')) : Calls Try.prog 49 #[.pointer (some ⟨pt, 0, none⟩)] W fun e w' => e = .returned (.int .i64 x) ∧ ∃ a', RL w' B pb pe pa pt ob A n c xs k t cs s' a' v0 v1 vN v3 ws bs ns ds ∧ Below B W w' :=
  (hf49 W B pb pe pa pt A n c xs s a h.ro.r).mono fun e' w' ⟨a', he, hr, hf⟩ => by
    rw [e] at he hr
    obtain ⟨r1, r2⟩ := h.ro.step hr hf
    refine ⟨he, a', ⟨r1, h.blk.fr hf (fun hk => ?_), h.low, h.nN, h.n3⟩, r2⟩
    rcases hk with e | e
    · exact blk_ne h.blk h.ro.r.ke (by rcases ht with rfl | rfl <;> decide) e
    · exact blk_ne h.blk h.ro.r.ka (by rcases ht with rfl | rfl <;> decide) e
theorem set (h : RL W B pb pe pa pt ob A n c xs k t cs s a v0 v1 vN v3 ws bs ns ds) (ht : t = 69 ∨ t = 79) (j : Nat) (u : Value) : RL (W.setCell ⟨k, j, none⟩ u) B pb pe pa pt ob A n c xs k t (cs.setIfInBounds j u) s a v0 v1 vN v3 ws bs ns ds := by
  have hk := h.blk
  have hf : Fr (fun i => i = k) W (W.setCell ⟨k, j, none⟩ u) := fr_set W k j u
  refine ⟨⟨?_, ?_⟩, hk.set j u, h.low, h.nN, h.n3⟩
  · have r := h.ro.r
    exact r.fr hf (fun i e => e ▸ h.low) (blk_ne r.kb hk (by rcases ht with rfl | rfl <;> decide)) (blk_ne r.ke hk (by rcases ht with rfl | rfl <;> decide)) (blk_ne r.ka hk (by rcases ht with rfl | rfl <;> decide)) (blk_ne r.kt hk (by rcases ht with rfl | rfl <;> decide))
  · have d := h.ro.o
    exact ⟨d.blk.fr hf (blk_ne d.blk hk (by rcases ht with rfl | rfl <;> decide)), d.o0.fr hf (fun i hi e => d.o0.ne_blk hk (by rcases ht with rfl | rfl <;> decide) (e ▸ hi)), d.o1.fr hf (fun i hi e => d.o1.ne_blk hk (by rcases ht with rfl | rfl <;> decide) (e ▸ hi)), d.oN.fr hf (fun i hi e => h.nN (e ▸ hi)), d.o3.fr hf (fun i hi e => h.n3 (e ▸ hi)), d.lo, d.fw, d.fb, d.fn, d.fd⟩
end RL
/-- The loops' relations. -/
def L1 (w : World) (B pb pe pa pt ob : Nat) (A : Option Addr) (n c : Nat) (xs : List Int) (s : Rst) (k : Nat) (wr : World) : Prop :=
  ∃ s' acc a v0, RO wr B pb pe pa pt ob A n c xs s' a v0 (.slice none 0 0) (.slice none 0 0) (.slice none 0 0) acc [] [] [] ∧ LR (manyR wordR s) wordR k s' acc ∧ acc.length + k ≤ 65535 ∧ Below B w wr
def L2 (w : World) (B pb pe pa pt ob : Nat) (A : Option Addr) (n c : Nat) (xs : List Int) (s : Rst) (v0 v1 : Value) (ws bs : List Int) (k : Nat) (wr : World) : Prop :=
  ∃ s' acc a vN, RO wr B pb pe pa pt ob A n c xs s' a v0 v1 vN (.slice none 0 0) ws bs acc [] ∧ LR (manyR nmR s) nmR k s' acc ∧ acc.length + k ≤ 65535 ∧ Below B w wr
def L3 (w : World) (B pb pe pa pt ob : Nat) (A : Option Addr) (n c : Nat) (xs : List Int) (s : Rst) (v0 v1 vN : Value) (ws bs : List Int) (ns : List Nm) (k : Nat) (wr : World) : Prop :=
  ∃ s' acc a v3, RO wr B pb pe pa pt ob A n c xs s' a v0 v1 vN v3 ws bs ns acc ∧ LR (manyR ndR s) ndR k s' acc ∧ acc.length + k ≤ 65535 ∧ Below B w wr
theorem l1_next {w w1 w8 w9 : World} {B pb pe pa pt ob n c a k : Nat} {A : Option Addr} {xs : List Int} {s s2 : Rst} {ys acc : List Int} {v0 : Value} {x b y : Int} {A9 : Option Addr} {c9 : Nat} {X : Obj} (hL : LR (manyR wordR s) wordR (k + 1) (some ys) acc) (hl : acc.length + (k + 1) ≤ 65535)
    (h1 : Below B w w1) (h2 : Below B w1 w8) (h8 : RO (w8.alloc X) B pb pe pa pt ob A n c xs s2 a v0 (.slice none 0 0) (.slice none 0 0) (.slice none 0 0) acc [] [] []) (hB : B ≤ w8.heap.size) (hx : x = y + 65536 * b) (hw : wordR (some ys) = (y + 65536 * b, s2))
    (hr : Row w9 B 22 1 (.slice A9 (acc.length + 1) c9) (acc.length + 1) (acc.map (Value.int .u32) ++ [.int .u32 x])) (hg : (w8.alloc X).grownBy w9 v0.ownBlock) (ha : 0 ≤ y ∧ y < 65536) (hb : 0 ≤ b ∧ b < 65536) :
    L1 w B pb pe pa pt ob A n c xs s k (w9.setCell ⟨ob, 0, none⟩ (.slice A9 (acc.length + 1) c9)) := by
  have e : (acc ++ [x]).length = acc.length + 1 := by simp
  obtain ⟨r1, r2⟩ := h8.put0 (v' := .slice A9 (acc.length + 1) c9) (zs := acc ++ [x]) (Fr.of_grown hg) (by rw [e]; exact ⟨A9, c9, rfl, by simpa using hr⟩) (fun y hy => by
    rcases List.mem_append.1 hy with h | h
    · exact h8.o.fw y h
    · simp at h; omega)
  exact ⟨s2, acc ++ [x], a, _, r1, hL.next (by rw [hw]) (fun _ => by rw [hw]; exact hx), by rw [e]; omega, (h1.trans (h2.alloc hB X)).trans r2⟩
theorem l2_next {w w5 w9 : World} {B pb pe pa pt ob n c a k : Nat} {A : Option Addr} {xs : List Int} {s s3 : Rst} {ys ws bs : List Int} {acc : List Nm} {v0 v1 vN : Value} {tx tx' : ByteArray} {x b : Int} {A9 : Option Addr} {c9 : Nat} {X : Obj} {m : Nm} (hL : LR (manyR nmR s) nmR (k + 1) (some ys) acc) (hl : acc.length + (k + 1) ≤ 65535)
    (h1 : Below B w w5) (h8 : RO (w5.alloc X) B pb pe pa pt ob A n c xs s3 a v0 v1 vN (.slice none 0 0) ws bs acc []) (hB : B ≤ w5.heap.size) (hw : nmR (some ys) = (⟨tx, x % 4, b, decide (4 ≤ x)⟩, s3)) (ht : s3 ≠ none → tx' = tx) (hm : m = ⟨tx', x % 4, b, decide (4 ≤ x)⟩)
    (hr : Row w9 B 69 4 (.slice A9 (acc.length + 1) c9) (acc.length + 1) (acc.flatMap Nm.cells ++ m.cells)) (hg : (w5.alloc X).grownBy w9 vN.ownBlock) (hs : tx'.size ≤ 255) (ha : 0 ≤ x ∧ x < 65536) (hb : 0 ≤ b ∧ b < 65536) :
    L2 w B pb pe pa pt ob A n c xs s v0 v1 ws bs k (w9.setCell ⟨ob, 2, none⟩ (.slice A9 (acc.length + 1) c9)) := by
  have e : (acc ++ [m]).length = acc.length + 1 := by simp
  obtain ⟨r1, r2⟩ := h8.putN (v' := .slice A9 (acc.length + 1) c9) (zs := acc ++ [m]) (Fr.of_grown hg) (by rw [e]; exact ⟨A9, c9, rfl, by rw [List.flatMap_append]; simpa using hr⟩) (fun y hy => by
    rcases List.mem_append.1 hy with h | h
    · exact h8.o.fn y h
    · simp at h
      subst h; subst hm
      exact ⟨by dsimp only; omega, fine_int (by dsimp only; omega), fine_int hb⟩)
  exact ⟨s3, acc ++ [m], a, _, r1, hL.next (by rw [hw]) (fun hn => by rw [hw, hm, ht hn]), by rw [e]; omega, (h1.alloc hB X).trans r2⟩
theorem l3_next {w w5 w9 : World} {B pb pe pa pt ob n c a k : Nat} {A : Option Addr} {xs : List Int} {s s3 : Rst} {ys ws bs : List Int} {ns : List Nm} {acc : List Nd} {v0 v1 vN v3 : Value} {tx tx' : ByteArray} {x b : Int} {A9 : Option Addr} {c9 : Nat} {X : Obj} {m : Nd} (hL : LR (manyR ndR s) ndR (k + 1) (some ys) acc) (hl : acc.length + (k + 1) ≤ 65535)
    (h1 : Below B w w5) (h8 : RO (w5.alloc X) B pb pe pa pt ob A n c xs s3 a v0 v1 vN v3 ws bs ns acc) (hB : B ≤ w5.heap.size) (hw : ndR (some ys) = (⟨b, tx, x⟩, s3)) (ht : s3 ≠ none → tx' = tx) (hm : m = ⟨b, tx', x⟩)
    (hr : Row w9 B 79 3 (.slice A9 (acc.length + 1) c9) (acc.length + 1) (acc.flatMap Nd.cells ++ m.cells)) (hg : (w5.alloc X).grownBy w9 v3.ownBlock) (hs : tx'.size ≤ 255) (ha : 0 ≤ x ∧ x < 65536) (hb : 0 ≤ b ∧ b < 65536) :
    L3 w B pb pe pa pt ob A n c xs s v0 v1 vN ws bs ns k (w9.setCell ⟨ob, 3, none⟩ (.slice A9 (acc.length + 1) c9)) := by
  have e : (acc ++ [m]).length = acc.length + 1 := by simp
  obtain ⟨r1, r2⟩ := h8.put3 (v' := .slice A9 (acc.length + 1) c9) (zs := acc ++ [m]) (Fr.of_grown hg) (by rw [e]; exact ⟨A9, c9, rfl, by rw [List.flatMap_append]; simpa using hr⟩) (fun y hy => by
    rcases List.mem_append.1 hy with h | h
    · exact h8.o.fd y h
    · simp at h
      subst h; subst hm
      exact ⟨by dsimp only; omega, fine_int hb, fine_int ha⟩)
  exact ⟨s3, acc ++ [m], a, _, r1, hL.next (by rw [hw]) (fun hn => by rw [hw, hm, ht hn]), by rw [e]; omega, (h1.alloc hB X).trans r2⟩
end Go.Proofs.Ytgmpcdonmlhohaa
