/- What ringref4.ObjOf holds while it reads: the reader, the object and its four slices. -/
import Derived.Test.YtgmpcdonmlhohaaOrI
namespace Go.Proofs.Ytgmpcdonmlhohaa
open Go.RowKit
set_option maxHeartbeats 400000
set_option linter.unusedVariables false
set_option linter.unusedSimpArgs false
/-- An object and its four slices. -/
structure OB (W : World) (B ob : Nat) (v0 v1 vN v3 : Value) (ws bs : List Int) (ns : List Nm) (ds : List Nd) : Prop where
  blk : Blk W ob #[v0, v1, vN, v3] 38
  o0 : OwnS W B 22 1 ws.length v0 (ws.map (Value.int .u32))
  o1 : OwnS W B 5 1 bs.length v1 (bs.map (Value.int .u8))
  oN : OwnS W B 69 4 ns.length vN (ns.flatMap Nm.cells)
  o3 : OwnS W B 79 3 ds.length v3 (ds.flatMap Nd.cells)
  lo : B ≤ ob
  fw : ∀ x ∈ ws, 0 ≤ x ∧ x < 4294967296
  fb : Byt bs
  fn : ∀ x ∈ ns, x.fine
  fd : ∀ x ∈ ds, x.fine
def Far (W : World) (S : Nat → Prop) : Prop := ∀ k, S k → ∃ cs t, Blk W k cs t ∧ t ≠ 38 ∧ t ≠ 22 ∧ t ≠ 5 ∧ t ≠ 69 ∧ t ≠ 79
theorem far_ne {W : World} {S : Nat → Prop} {base e size n k : Nat} {v : Value} {xs : List Value} (hF : Far W S) (h : OwnS W base e size n v xs) (he : e = 22 ∨ e = 5 ∨ e = 69 ∨ e = 79) (hk : v.ownBlock = some k) : ¬ S k := by
  intro hs
  obtain ⟨cs, t, hb, h1, h2, h3, h4, h5⟩ := hF k hs
  refine h.ne_blk hb ?_ hk
  rcases he with rfl | rfl | rfl | rfl
  · exact Ne.symm h2
  · exact Ne.symm h3
  · exact Ne.symm h4
  · exact Ne.symm h5
namespace OB
variable {W W' W1 : World} {B ob : Nat} {v0 v1 vN v3 : Value} {ws bs : List Int} {ns : List Nm} {ds : List Nd}
theorem fr {S : Nat → Prop} (h : OB W B ob v0 v1 vN v3 ws bs ns ds) (hf : Fr S W W') (hF : Far W S) : OB W' B ob v0 v1 vN v3 ws bs ns ds := by
  refine ⟨h.blk.fr hf (fun hs => ?_), h.o0.fr hf (fun k hk => far_ne hF h.o0 (.inl rfl) hk), h.o1.fr hf (fun k hk => far_ne hF h.o1 (.inr (.inl rfl)) hk), h.oN.fr hf (fun k hk => far_ne hF h.oN (.inr (.inr (.inl rfl))) hk), h.o3.fr hf (fun k hk => far_ne hF h.o3 (.inr (.inr (.inr rfl))) hk), h.lo, h.fw, h.fb, h.fn, h.fd⟩
  obtain ⟨cs, t, hb, h1, _⟩ := hF _ hs
  exact blk_ne h.blk hb (Ne.symm h1) rfl
theorem grow (h : OB W B ob v0 v1 vN v3 ws bs ns ds) (hb : Below W.heap.size W W') : OB W' B ob v0 v1 vN v3 ws bs ns ds := h.fr (Fr.of_grow hb) (fun k hs => hs.elim)
/-- Field 0 is another slice now. -/
theorem put0 {v' : Value} {zs : List Int} (h : OB W B ob v0 v1 vN v3 ws bs ns ds) (hf1 : Fr (fun k => v0.ownBlock = some k) W W1) (hr : OwnS W1 B 22 1 zs.length v' (zs.map (Value.int .u32))) (hz : ∀ x ∈ zs, 0 ≤ x ∧ x < 4294967296) :
    OB (W1.setCell ⟨ob, 0, none⟩ v') B ob v' v1 vN v3 zs bs ns ds ∧ Fr (fun k => v0.ownBlock = some k ∨ k = ob) W (W1.setCell ⟨ob, 0, none⟩ v') := by
  have hf : Fr (fun k => v0.ownBlock = some k ∨ k = ob) W (W1.setCell ⟨ob, 0, none⟩ v') := (hf1.mono (fun _ _ e => .inl e)).setCell (p := ⟨ob, 0, none⟩) (fun _ => .inr rfl) _
  have hb1 := h.blk.fr hf1 (fun e => h.o0.ne_blk h.blk (by decide) e)
  have hblk : Blk (W1.setCell ⟨ob, 0, none⟩ v') ob #[v', v1, vN, v3] 38 := by simpa using hb1.set 0 v'
  have hown : OwnS (W1.setCell ⟨ob, 0, none⟩ v') B 22 1 zs.length v' (zs.map (Value.int .u32)) := by
    obtain ⟨A, c, rfl, hr'⟩ := hr
    exact ⟨A, c, rfl, hr'.setCell (p := ⟨ob, 0, none⟩) (row_blk hr' hb1 (by decide)) _⟩
  exact ⟨⟨hblk, hown, h.o1.fr hf (fun k hk e => e.elim (fun e => h.o1.ne_row h.o0 (by decide) k hk e) (fun e => h.o1.ne_blk h.blk (by decide) (e ▸ hk))), h.oN.fr hf (fun k hk e => e.elim (fun e => h.oN.ne_row h.o0 (by decide) k hk e) (fun e => h.oN.ne_blk h.blk (by decide) (e ▸ hk))), h.o3.fr hf (fun k hk e => e.elim (fun e => h.o3.ne_row h.o0 (by decide) k hk e) (fun e => h.o3.ne_blk h.blk (by decide) (e ▸ hk))), h.lo, hz, h.fb, h.fn, h.fd⟩, hf⟩
/-- Field 1 is another slice now. -/
theorem put1 {v' : Value} {zs : List Int} (h : OB W B ob v0 v1 vN v3 ws bs ns ds) (hf1 : Fr (fun k => v1.ownBlock = some k) W W1) (hr : OwnS W1 B 5 1 zs.length v' (zs.map (Value.int .u8))) (hz : Byt zs) :
    OB (W1.setCell ⟨ob, 1, none⟩ v') B ob v0 v' vN v3 ws zs ns ds ∧ Fr (fun k => v1.ownBlock = some k ∨ k = ob) W (W1.setCell ⟨ob, 1, none⟩ v') := by
  have hf : Fr (fun k => v1.ownBlock = some k ∨ k = ob) W (W1.setCell ⟨ob, 1, none⟩ v') := (hf1.mono (fun _ _ e => .inl e)).setCell (p := ⟨ob, 1, none⟩) (fun _ => .inr rfl) _
  have hb1 := h.blk.fr hf1 (fun e => h.o1.ne_blk h.blk (by decide) e)
  have hblk : Blk (W1.setCell ⟨ob, 1, none⟩ v') ob #[v0, v', vN, v3] 38 := by simpa using hb1.set 1 v'
  have hown : OwnS (W1.setCell ⟨ob, 1, none⟩ v') B 5 1 zs.length v' (zs.map (Value.int .u8)) := by
    obtain ⟨A, c, rfl, hr'⟩ := hr
    exact ⟨A, c, rfl, hr'.setCell (p := ⟨ob, 1, none⟩) (row_blk hr' hb1 (by decide)) _⟩
  exact ⟨⟨hblk, h.o0.fr hf (fun k hk e => e.elim (fun e => h.o0.ne_row h.o1 (by decide) k hk e) (fun e => h.o0.ne_blk h.blk (by decide) (e ▸ hk))), hown, h.oN.fr hf (fun k hk e => e.elim (fun e => h.oN.ne_row h.o1 (by decide) k hk e) (fun e => h.oN.ne_blk h.blk (by decide) (e ▸ hk))), h.o3.fr hf (fun k hk e => e.elim (fun e => h.o3.ne_row h.o1 (by decide) k hk e) (fun e => h.o3.ne_blk h.blk (by decide) (e ▸ hk))), h.lo, h.fw, hz, h.fn, h.fd⟩, hf⟩
/-- Field 2 is another slice now. -/
theorem putN {v' : Value} {zs : List Nm} (h : OB W B ob v0 v1 vN v3 ws bs ns ds) (hf1 : Fr (fun k => vN.ownBlock = some k) W W1) (hr : OwnS W1 B 69 4 zs.length v' (zs.flatMap Nm.cells)) (hz : ∀ x ∈ zs, x.fine) :
    OB (W1.setCell ⟨ob, 2, none⟩ v') B ob v0 v1 v' v3 ws bs zs ds ∧ Fr (fun k => vN.ownBlock = some k ∨ k = ob) W (W1.setCell ⟨ob, 2, none⟩ v') := by
  have hf : Fr (fun k => vN.ownBlock = some k ∨ k = ob) W (W1.setCell ⟨ob, 2, none⟩ v') := (hf1.mono (fun _ _ e => .inl e)).setCell (p := ⟨ob, 2, none⟩) (fun _ => .inr rfl) _
  have hb1 := h.blk.fr hf1 (fun e => h.oN.ne_blk h.blk (by decide) e)
  have hblk : Blk (W1.setCell ⟨ob, 2, none⟩ v') ob #[v0, v1, v', v3] 38 := by simpa using hb1.set 2 v'
  have hown : OwnS (W1.setCell ⟨ob, 2, none⟩ v') B 69 4 zs.length v' (zs.flatMap Nm.cells) := by
    obtain ⟨A, c, rfl, hr'⟩ := hr
    exact ⟨A, c, rfl, hr'.setCell (p := ⟨ob, 2, none⟩) (row_blk hr' hb1 (by decide)) _⟩
  exact ⟨⟨hblk, h.o0.fr hf (fun k hk e => e.elim (fun e => h.o0.ne_row h.oN (by decide) k hk e) (fun e => h.o0.ne_blk h.blk (by decide) (e ▸ hk))), h.o1.fr hf (fun k hk e => e.elim (fun e => h.o1.ne_row h.oN (by decide) k hk e) (fun e => h.o1.ne_blk h.blk (by decide) (e ▸ hk))), hown, h.o3.fr hf (fun k hk e => e.elim (fun e => h.o3.ne_row h.oN (by decide) k hk e) (fun e => h.o3.ne_blk h.blk (by decide) (e ▸ hk))), h.lo, h.fw, h.fb, hz, h.fd⟩, hf⟩
/-- Field 3 is another slice now. -/
theorem put3 {v' : Value} {zs : List Nd} (h : OB W B ob v0 v1 vN v3 ws bs ns ds) (hf1 : Fr (fun k => v3.ownBlock = some k) W W1) (hr : OwnS W1 B 79 3 zs.length v' (zs.flatMap Nd.cells)) (hz : ∀ x ∈ zs, x.fine) :
    OB (W1.setCell ⟨ob, 3, none⟩ v') B ob v0 v1 vN v' ws bs ns zs ∧ Fr (fun k => v3.ownBlock = some k ∨ k = ob) W (W1.setCell ⟨ob, 3, none⟩ v') := by
  have hf : Fr (fun k => v3.ownBlock = some k ∨ k = ob) W (W1.setCell ⟨ob, 3, none⟩ v') := (hf1.mono (fun _ _ e => .inl e)).setCell (p := ⟨ob, 3, none⟩) (fun _ => .inr rfl) _
  have hb1 := h.blk.fr hf1 (fun e => h.o3.ne_blk h.blk (by decide) e)
  have hblk : Blk (W1.setCell ⟨ob, 3, none⟩ v') ob #[v0, v1, vN, v'] 38 := by simpa using hb1.set 3 v'
  have hown : OwnS (W1.setCell ⟨ob, 3, none⟩ v') B 79 3 zs.length v' (zs.flatMap Nd.cells) := by
    obtain ⟨A, c, rfl, hr'⟩ := hr
    exact ⟨A, c, rfl, hr'.setCell (p := ⟨ob, 3, none⟩) (row_blk hr' hb1 (by decide)) _⟩
  exact ⟨⟨hblk, h.o0.fr hf (fun k hk e => e.elim (fun e => h.o0.ne_row h.o3 (by decide) k hk e) (fun e => h.o0.ne_blk h.blk (by decide) (e ▸ hk))), h.o1.fr hf (fun k hk e => e.elim (fun e => h.o1.ne_row h.o3 (by decide) k hk e) (fun e => h.o1.ne_blk h.blk (by decide) (e ▸ hk))), h.oN.fr hf (fun k hk e => e.elim (fun e => h.oN.ne_row h.o3 (by decide) k hk e) (fun e => h.oN.ne_blk h.blk (by decide) (e ▸ hk))), hown, h.lo, h.fw, h.fb, h.fn, hz⟩, hf⟩
end OB
/-- The reader and the object. -/
structure RO (W : World) (B pb pe pa pt ob : Nat) (A : Option Addr) (n c : Nat) (xs : List Int) (s : Rst) (a : Nat) (v0 v1 vN v3 : Value) (ws bs : List Int) (ns : List Nm) (ds : List Nd) : Prop where
  r : RfS W B pb pe pa pt A n c xs s a
  o : OB W B ob v0 v1 vN v3 ws bs ns ds
namespace RO
variable {W W' W1 : World} {B pb pe pa pt ob n c a a' : Nat} {A : Option Addr} {xs : List Int} {s s' : Rst} {v0 v1 vN v3 : Value} {ws bs : List Int} {ns : List Nm} {ds : List Nd}
theorem low (h : RO W B pb pe pa pt ob A n c xs s a v0 v1 vN v3 ws bs ns ds) : B ≤ W.heap.size := h.r.low
theorem grow (h : RO W B pb pe pa pt ob A n c xs s a v0 v1 vN v3 ws bs ns ds) (hb : Below W.heap.size W W') : RO W' B pb pe pa pt ob A n c xs s a v0 v1 vN v3 ws bs ns ds := ⟨h.r.grow hb, h.o.grow hb⟩
theorem drew (h : RO W B pb pe pa pt ob A n c xs s a v0 v1 vN v3 ws bs ns ds) : RO W.drew B pb pe pa pt ob A n c xs s a v0 v1 vN v3 ws bs ns ds := h.grow (Below.refl _ _).drew
theorem alloc (h : RO W B pb pe pa pt ob A n c xs s a v0 v1 vN v3 ws bs ns ds) (X : Obj) : RO (W.alloc X) B pb pe pa pt ob A n c xs s a v0 v1 vN v3 ws bs ns ds := h.grow ((Below.refl _ _).alloc (Nat.le_refl _) X)
/-- The reader has gone on. -/
theorem step (h : RO W B pb pe pa pt ob A n c xs s a v0 v1 vN v3 ws bs ns ds) (hr : RfS W' B pb pe pa pt A n c xs s' a') (hf : Fr (RfF pe pa) W W') : RO W' B pb pe pa pt ob A n c xs s' a' v0 v1 vN v3 ws bs ns ds ∧ Below B W W' := by
  refine ⟨⟨hr, h.o.fr hf (fun k hk => ?_)⟩, hf.below h.low (fun k hk => ?_)⟩
  · rcases hk with rfl | rfl
    · exact ⟨_, _, h.r.ke, by decide, by decide, by decide, by decide, by decide⟩
    · exact ⟨_, _, h.r.ka, by decide, by decide, by decide, by decide, by decide⟩
  · rcases hk with rfl | rfl
    · exact h.r.lE
    · exact h.r.la
theorem rfs {e : TypeId} {size m : Nat} {v : Value} {zs : List Value} (h : RO W B pb pe pa pt ob A n c xs s a v0 v1 vN v3 ws bs ns ds) (ho : OwnS W B e size m v zs) (he : e ≠ 35 ∧ e ≠ 4 ∧ e ≠ 3 ∧ e ≠ 98) (hf : Fr (fun k => v.ownBlock = some k ∨ k = ob) W W') : RfS W' B pb pe pa pt A n c xs s a ∧ Below B W W' := by
  have hB : ∀ k, (v.ownBlock = some k ∨ k = ob) → B ≤ k := fun k hk => hk.elim (fun e => (ho.row.lt k e).1) (fun e => e ▸ h.o.lo)
  have ne : ∀ {g : Nat} {cs : Array Value} {t : TypeId}, Blk W g cs t → e ≠ t → t ≠ 38 → ¬ (v.ownBlock = some g ∨ g = ob) := fun hg h1 h2 hk => hk.elim (fun e => ho.ne_blk hg h1 e) (fun e => blk_ne hg h.o.blk h2 e)
  exact ⟨h.r.fr hf hB (ne h.r.kb he.1 (by decide)) (ne h.r.ke he.2.1 (by decide)) (ne h.r.ka he.2.2.1 (by decide)) (ne h.r.kt he.2.2.2 (by decide)), hf.below h.low hB⟩
theorem put0 {v' : Value} {zs : List Int} (h : RO W B pb pe pa pt ob A n c xs s a v0 v1 vN v3 ws bs ns ds) (hf1 : Fr (fun k => v0.ownBlock = some k) W W1) (hr : OwnS W1 B 22 1 zs.length v' (zs.map (Value.int .u32))) (hz : ∀ x ∈ zs, 0 ≤ x ∧ x < 4294967296) :
    RO (W1.setCell ⟨ob, 0, none⟩ v') B pb pe pa pt ob A n c xs s a v' v1 vN v3 zs bs ns ds ∧ Below B W (W1.setCell ⟨ob, 0, none⟩ v') := by
  obtain ⟨r1, r2⟩ := h.o.put0 hf1 hr hz
  obtain ⟨r3, r4⟩ := h.rfs h.o.o0 (by decide) r2
  exact ⟨⟨r3, r1⟩, r4⟩
theorem put1 {v' : Value} {zs : List Int} (h : RO W B pb pe pa pt ob A n c xs s a v0 v1 vN v3 ws bs ns ds) (hf1 : Fr (fun k => v1.ownBlock = some k) W W1) (hr : OwnS W1 B 5 1 zs.length v' (zs.map (Value.int .u8))) (hz : Byt zs) :
    RO (W1.setCell ⟨ob, 1, none⟩ v') B pb pe pa pt ob A n c xs s a v0 v' vN v3 ws zs ns ds ∧ Below B W (W1.setCell ⟨ob, 1, none⟩ v') := by
  obtain ⟨r1, r2⟩ := h.o.put1 hf1 hr hz
  obtain ⟨r3, r4⟩ := h.rfs h.o.o1 (by decide) r2
  exact ⟨⟨r3, r1⟩, r4⟩
theorem putN {v' : Value} {zs : List Nm} (h : RO W B pb pe pa pt ob A n c xs s a v0 v1 vN v3 ws bs ns ds) (hf1 : Fr (fun k => vN.ownBlock = some k) W W1) (hr : OwnS W1 B 69 4 zs.length v' (zs.flatMap Nm.cells)) (hz : ∀ x ∈ zs, x.fine) :
    RO (W1.setCell ⟨ob, 2, none⟩ v') B pb pe pa pt ob A n c xs s a v0 v1 v' v3 ws bs zs ds ∧ Below B W (W1.setCell ⟨ob, 2, none⟩ v') := by
  obtain ⟨r1, r2⟩ := h.o.putN hf1 hr hz
  obtain ⟨r3, r4⟩ := h.rfs h.o.oN (by decide) r2
  exact ⟨⟨r3, r1⟩, r4⟩
theorem put3 {v' : Value} {zs : List Nd} (h : RO W B pb pe pa pt ob A n c xs s a v0 v1 vN v3 ws bs ns ds) (hf1 : Fr (fun k => v3.ownBlock = some k) W W1) (hr : OwnS W1 B 79 3 zs.length v' (zs.flatMap Nd.cells)) (hz : ∀ x ∈ zs, x.fine) :
    RO (W1.setCell ⟨ob, 3, none⟩ v') B pb pe pa pt ob A n c xs s a v0 v1 vN v' ws bs ns zs ∧ Below B W (W1.setCell ⟨ob, 3, none⟩ v') := by
  obtain ⟨r1, r2⟩ := h.o.put3 hf1 hr hz
  obtain ⟨r3, r4⟩ := h.rfs h.o.o3 (by decide) r2
  exact ⟨⟨r3, r1⟩, r4⟩
end RO
/-- How a loop of the reference stands: exact, as long as there was enough. -/
def LR {α : Type} (R : List α × Rst) (f : Rst → α × Rst) (k : Nat) (s : Rst) (acc : List α) : Prop := (s ≠ none → R = loopR f k s acc) ∧ (s = none → R.2 = none)
theorem LR.start {α : Type} (f : Rst → α × Rst) (s s1 : Rst) (k : Nat) (h : halfR s = ((k : Int), s1)) : LR (manyR f s) f k s1 [] := by
  have e : manyR f s = loopR f k s1 [] := by unfold manyR; rw [h]; simp
  refine ⟨fun _ => e, ?_⟩
  rintro rfl
  rw [e, loopR_none]
theorem LR.next {α : Type} {R : List α × Rst} {f : Rst → α × Rst} {k : Nat} {ys : List Int} {acc : List α} {x : α} {s' : Rst} (h : LR R f (k + 1) (some ys) acc) (h2 : (f (some ys)).2 = s') (h1 : s' ≠ none → x = (f (some ys)).1) : LR R f k s' (acc ++ [x]) := by
  have e := (h.1 (by simp)).trans (loop_step f k ys acc)
  rw [h2] at e
  refine ⟨fun hn => by rw [e, h1 hn], ?_⟩
  rintro rfl
  rw [e, loopR_none]
theorem LR.done {α : Type} {R : List α × Rst} {f : Rst → α × Rst} {k : Nat} {s : Rst} {acc : List α} (h : LR R f k s acc) (hk : k = 0 ∨ s = none) : R.2 = s ∧ (s ≠ none → R.1 = acc) := by
  cases s with
  | none => exact ⟨h.2 rfl, fun h => absurd rfl h⟩
  | some ys =>
    obtain rfl : k = 0 := by simpa using hk
    have e := h.1 (by simp)
    rw [e]
    exact ⟨rfl, fun _ => rfl⟩
end Go.Proofs.Ytgmpcdonmlhohaa
