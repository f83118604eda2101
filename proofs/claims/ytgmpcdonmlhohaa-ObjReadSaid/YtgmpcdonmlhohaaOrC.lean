/- What obj.Decode holds while it reads: the reader, its variable, the object and its four slices. -/
import Derived.Test.YtgmpcdonmlhohaaOrB
import Derived.Test.YtgmpcdonmlhohaaObJ
import Derived.Test.YtgmpcdonmlhohaaObK
namespace Go.Proofs.Ytgmpcdonmlhohaa
open Go.RowKit
set_option maxHeartbeats 400000
set_option linter.unusedVariables false
set_option linter.unusedSimpArgs false
structure DS (W : World) (B q g ob : Nat) (s : Rst) (v0 v1 vN v3 : Value) (ws bs : List Int) (ns : List Nm) (ds : List Nd) : Prop where
  rd : Rd W g B s
  var : Blk W q #[.pointer (some ⟨g, 0, none⟩)] 93
  blk : Blk W ob #[v0, v1, vN, v3] 38
  o0 : OwnS W B 22 1 ws.length v0 (ws.map (Value.int .u32))
  o1 : OwnS W B 5 1 bs.length v1 (bs.map (Value.int .u8))
  oN : OwnS W B 69 4 ns.length vN (ns.flatMap Nm.cells)
  o3 : OwnS W B 79 3 ds.length v3 (ds.flatMap Nd.cells)
  lq : B ≤ q
  lg : B ≤ g
  lo : B ≤ ob
  fw : ∀ x ∈ ws, 0 ≤ x ∧ x < 4294967296
  fb : Byt bs
  fn : ∀ x ∈ ns, x.fine
  fd : ∀ x ∈ ds, x.fine
theorem Rd.blk {w : World} {g B : Nat} {s : Rst} (h : Rd w g B s) : ∃ cs, Blk w g cs 95 := by
  obtain ⟨A, n, c, sh, h1, _⟩ := h
  exact ⟨_, h1⟩
theorem blk_ne {w : World} {g g' : Nat} {cs cs' : Array Value} {t t' : TypeId} (h : Blk w g cs t) (h' : Blk w g' cs' t') (ht : t ≠ t') : g ≠ g' := by
  rintro rfl
  unfold Blk at h h'
  rw [h] at h'
  simp at h'
  exact ht h'.2
theorem OwnS.ne_blk {w : World} {base e size n g : Nat} {v : Value} {xs : List Value} {cs : Array Value} {t : TypeId} (h : OwnS w base e size n v xs) (hb : Blk w g cs t) (ht : e ≠ t) : v.ownBlock ≠ some g := row_blk h.row hb ht
theorem OwnS.ne_row {w : World} {base base' e e' size size' n n' : Nat} {v v' : Value} {xs xs' : List Value} (h : OwnS w base e size n v xs) (h' : OwnS w base' e' size' n' v' xs') (ht : e ≠ e') : ∀ k, v.ownBlock = some k → v'.ownBlock ≠ some k := row_row h.row h'.row ht
namespace DS
variable {W W' W1 : World} {B q g ob : Nat} {s s' : Rst} {v0 v1 vN v3 : Value} {ws bs : List Int} {ns : List Nm} {ds : List Nd}
theorem low (h : DS W B q g ob s v0 v1 vN v3 ws bs ns ds) : B ≤ W.heap.size := by have := h.var.lt; have := h.lq; omega
/-- The reader has gone on. -/
theorem step (h : DS W B q g ob s v0 v1 vN v3 ws bs ns ds) (hd : Rd W' g B s') (hf : Fr (fun k => k = g) W W') : DS W' B q g ob s' v0 v1 vN v3 ws bs ns ds := by
  obtain ⟨cs, hg⟩ := h.rd.blk
  exact ⟨hd, h.var.fr hf (blk_ne h.var hg (by decide)), h.blk.fr hf (blk_ne h.blk hg (by decide)), h.o0.fr hf (fun k hk e => h.o0.ne_blk hg (by decide) (e ▸ hk)), h.o1.fr hf (fun k hk e => h.o1.ne_blk hg (by decide) (e ▸ hk)), h.oN.fr hf (fun k hk e => h.oN.ne_blk hg (by decide) (e ▸ hk)), h.o3.fr hf (fun k hk e => h.o3.ne_blk hg (by decide) (e ▸ hk)), h.lq, h.lg, h.lo, h.fw, h.fb, h.fn, h.fd⟩
/-- Memory has grown. -/
theorem grow (h : DS W B q g ob s v0 v1 vN v3 ws bs ns ds) (hb : Below W.heap.size W W') : DS W' B q g ob s v0 v1 vN v3 ws bs ns ds := by
  have hf := Fr.of_grow hb
  exact ⟨h.rd.fr hf h.low (fun k e => e.elim) id, h.var.fr hf id, h.blk.fr hf id, h.o0.grow hb, h.o1.grow hb, h.oN.grow hb, h.o3.grow hb, h.lq, h.lg, h.lo, h.fw, h.fb, h.fn, h.fd⟩
theorem drew (h : DS W B q g ob s v0 v1 vN v3 ws bs ns ds) : DS W.drew B q g ob s v0 v1 vN v3 ws bs ns ds := h.grow (Below.refl _ _).drew
theorem alloc (h : DS W B q g ob s v0 v1 vN v3 ws bs ns ds) (X : Obj) : DS (W.alloc X) B q g ob s v0 v1 vN v3 ws bs ns ds := h.grow ((Below.refl _ _).alloc (Nat.le_refl _) X)
/-- Field 0 is another slice now. -/
theorem put0 {v' : Value} {zs : List Int} (h : DS W B q g ob s v0 v1 vN v3 ws bs ns ds) (hf1 : Fr (fun k => v0.ownBlock = some k) W W1) (hr : OwnS W1 B 22 1 zs.length v' (zs.map (Value.int .u32))) (hz : ∀ x ∈ zs, 0 ≤ x ∧ x < 4294967296) :
    DS (W1.setCell ⟨ob, 0, none⟩ v') B q g ob s v' v1 vN v3 zs bs ns ds ∧ Below B W (W1.setCell ⟨ob, 0, none⟩ v') := by
  obtain ⟨cs, hg⟩ := h.rd.blk
  have hf : Fr (fun k => v0.ownBlock = some k ∨ k = ob) W (W1.setCell ⟨ob, 0, none⟩ v') := (hf1.mono (fun _ _ e => .inl e)).setCell (p := ⟨ob, 0, none⟩) (fun _ => .inr rfl) _
  have hlow : ∀ k, (v0.ownBlock = some k ∨ k = ob) → B ≤ k := fun k e => e.elim (fun e => (h.o0.row.lt k e).1) (fun e => e ▸ h.lo)
  have hb1 := h.blk.fr hf1 (fun e => h.o0.ne_blk h.blk (by decide) e)
  have hblk : Blk (W1.setCell ⟨ob, 0, none⟩ v') ob #[v', v1, vN, v3] 38 := by simpa using hb1.set 0 v'
  have hown : OwnS (W1.setCell ⟨ob, 0, none⟩ v') B 22 1 zs.length v' (zs.map (Value.int .u32)) := by
    obtain ⟨A, c, rfl, hr'⟩ := hr
    exact ⟨A, c, rfl, hr'.setCell (p := ⟨ob, 0, none⟩) (row_blk hr' hb1 (by decide)) _⟩
  exact ⟨⟨h.rd.fr hf h.low hlow (fun e => e.elim (fun e => h.o0.ne_blk hg (by decide) e) (fun e => blk_ne h.blk hg (by decide) e.symm)), h.var.fr hf (fun e => e.elim (fun e => h.o0.ne_blk h.var (by decide) e) (fun e => blk_ne h.blk h.var (by decide) e.symm)), hblk, hown, h.o1.fr hf (fun k hk e => e.elim (fun e => h.o1.ne_row h.o0 (by decide) k hk e) (fun e => h.o1.ne_blk h.blk (by decide) (e ▸ hk))), h.oN.fr hf (fun k hk e => e.elim (fun e => h.oN.ne_row h.o0 (by decide) k hk e) (fun e => h.oN.ne_blk h.blk (by decide) (e ▸ hk))), h.o3.fr hf (fun k hk e => e.elim (fun e => h.o3.ne_row h.o0 (by decide) k hk e) (fun e => h.o3.ne_blk h.blk (by decide) (e ▸ hk))), h.lq, h.lg, h.lo, hz, h.fb, h.fn, h.fd⟩, hf.below h.low hlow⟩
/-- Field 1 is another slice now. -/
theorem put1 {v' : Value} {zs : List Int} (h : DS W B q g ob s v0 v1 vN v3 ws bs ns ds) (hf1 : Fr (fun k => v1.ownBlock = some k) W W1) (hr : OwnS W1 B 5 1 zs.length v' (zs.map (Value.int .u8))) (hz : Byt zs) :
    DS (W1.setCell ⟨ob, 1, none⟩ v') B q g ob s v0 v' vN v3 ws zs ns ds ∧ Below B W (W1.setCell ⟨ob, 1, none⟩ v') := by
  obtain ⟨cs, hg⟩ := h.rd.blk
  have hf : Fr (fun k => v1.ownBlock = some k ∨ k = ob) W (W1.setCell ⟨ob, 1, none⟩ v') := (hf1.mono (fun _ _ e => .inl e)).setCell (p := ⟨ob, 1, none⟩) (fun _ => .inr rfl) _
  have hlow : ∀ k, (v1.ownBlock = some k ∨ k = ob) → B ≤ k := fun k e => e.elim (fun e => (h.o1.row.lt k e).1) (fun e => e ▸ h.lo)
  have hb1 := h.blk.fr hf1 (fun e => h.o1.ne_blk h.blk (by decide) e)
  have hblk : Blk (W1.setCell ⟨ob, 1, none⟩ v') ob #[v0, v', vN, v3] 38 := by simpa using hb1.set 1 v'
  have hown : OwnS (W1.setCell ⟨ob, 1, none⟩ v') B 5 1 zs.length v' (zs.map (Value.int .u8)) := by
    obtain ⟨A, c, rfl, hr'⟩ := hr
    exact ⟨A, c, rfl, hr'.setCell (p := ⟨ob, 1, none⟩) (row_blk hr' hb1 (by decide)) _⟩
  exact ⟨⟨h.rd.fr hf h.low hlow (fun e => e.elim (fun e => h.o1.ne_blk hg (by decide) e) (fun e => blk_ne h.blk hg (by decide) e.symm)), h.var.fr hf (fun e => e.elim (fun e => h.o1.ne_blk h.var (by decide) e) (fun e => blk_ne h.blk h.var (by decide) e.symm)), hblk, h.o0.fr hf (fun k hk e => e.elim (fun e => h.o0.ne_row h.o1 (by decide) k hk e) (fun e => h.o0.ne_blk h.blk (by decide) (e ▸ hk))), hown, h.oN.fr hf (fun k hk e => e.elim (fun e => h.oN.ne_row h.o1 (by decide) k hk e) (fun e => h.oN.ne_blk h.blk (by decide) (e ▸ hk))), h.o3.fr hf (fun k hk e => e.elim (fun e => h.o3.ne_row h.o1 (by decide) k hk e) (fun e => h.o3.ne_blk h.blk (by decide) (e ▸ hk))), h.lq, h.lg, h.lo, h.fw, hz, h.fn, h.fd⟩, hf.below h.low hlow⟩
/-- Field 2 is another slice now. -/
theorem putN {v' : Value} {zs : List Nm} (h : DS W B q g ob s v0 v1 vN v3 ws bs ns ds) (hf1 : Fr (fun k => vN.ownBlock = some k) W W1) (hr : OwnS W1 B 69 4 zs.length v' (zs.flatMap Nm.cells)) (hz : ∀ x ∈ zs, x.fine) :
    DS (W1.setCell ⟨ob, 2, none⟩ v') B q g ob s v0 v1 v' v3 ws bs zs ds ∧ Below B W (W1.setCell ⟨ob, 2, none⟩ v') := by
  obtain ⟨cs, hg⟩ := h.rd.blk
  have hf : Fr (fun k => vN.ownBlock = some k ∨ k = ob) W (W1.setCell ⟨ob, 2, none⟩ v') := (hf1.mono (fun _ _ e => .inl e)).setCell (p := ⟨ob, 2, none⟩) (fun _ => .inr rfl) _
  have hlow : ∀ k, (vN.ownBlock = some k ∨ k = ob) → B ≤ k := fun k e => e.elim (fun e => (h.oN.row.lt k e).1) (fun e => e ▸ h.lo)
  have hb1 := h.blk.fr hf1 (fun e => h.oN.ne_blk h.blk (by decide) e)
  have hblk : Blk (W1.setCell ⟨ob, 2, none⟩ v') ob #[v0, v1, v', v3] 38 := by simpa using hb1.set 2 v'
  have hown : OwnS (W1.setCell ⟨ob, 2, none⟩ v') B 69 4 zs.length v' (zs.flatMap Nm.cells) := by
    obtain ⟨A, c, rfl, hr'⟩ := hr
    exact ⟨A, c, rfl, hr'.setCell (p := ⟨ob, 2, none⟩) (row_blk hr' hb1 (by decide)) _⟩
  exact ⟨⟨h.rd.fr hf h.low hlow (fun e => e.elim (fun e => h.oN.ne_blk hg (by decide) e) (fun e => blk_ne h.blk hg (by decide) e.symm)), h.var.fr hf (fun e => e.elim (fun e => h.oN.ne_blk h.var (by decide) e) (fun e => blk_ne h.blk h.var (by decide) e.symm)), hblk, h.o0.fr hf (fun k hk e => e.elim (fun e => h.o0.ne_row h.oN (by decide) k hk e) (fun e => h.o0.ne_blk h.blk (by decide) (e ▸ hk))), h.o1.fr hf (fun k hk e => e.elim (fun e => h.o1.ne_row h.oN (by decide) k hk e) (fun e => h.o1.ne_blk h.blk (by decide) (e ▸ hk))), hown, h.o3.fr hf (fun k hk e => e.elim (fun e => h.o3.ne_row h.oN (by decide) k hk e) (fun e => h.o3.ne_blk h.blk (by decide) (e ▸ hk))), h.lq, h.lg, h.lo, h.fw, h.fb, hz, h.fd⟩, hf.below h.low hlow⟩
/-- Field 3 is another slice now. -/
theorem put3 {v' : Value} {zs : List Nd} (h : DS W B q g ob s v0 v1 vN v3 ws bs ns ds) (hf1 : Fr (fun k => v3.ownBlock = some k) W W1) (hr : OwnS W1 B 79 3 zs.length v' (zs.flatMap Nd.cells)) (hz : ∀ x ∈ zs, x.fine) :
    DS (W1.setCell ⟨ob, 3, none⟩ v') B q g ob s v0 v1 vN v' ws bs ns zs ∧ Below B W (W1.setCell ⟨ob, 3, none⟩ v') := by
  obtain ⟨cs, hg⟩ := h.rd.blk
  have hf : Fr (fun k => v3.ownBlock = some k ∨ k = ob) W (W1.setCell ⟨ob, 3, none⟩ v') := (hf1.mono (fun _ _ e => .inl e)).setCell (p := ⟨ob, 3, none⟩) (fun _ => .inr rfl) _
  have hlow : ∀ k, (v3.ownBlock = some k ∨ k = ob) → B ≤ k := fun k e => e.elim (fun e => (h.o3.row.lt k e).1) (fun e => e ▸ h.lo)
  have hb1 := h.blk.fr hf1 (fun e => h.o3.ne_blk h.blk (by decide) e)
  have hblk : Blk (W1.setCell ⟨ob, 3, none⟩ v') ob #[v0, v1, vN, v'] 38 := by simpa using hb1.set 3 v'
  have hown : OwnS (W1.setCell ⟨ob, 3, none⟩ v') B 79 3 zs.length v' (zs.flatMap Nd.cells) := by
    obtain ⟨A, c, rfl, hr'⟩ := hr
    exact ⟨A, c, rfl, hr'.setCell (p := ⟨ob, 3, none⟩) (row_blk hr' hb1 (by decide)) _⟩
  exact ⟨⟨h.rd.fr hf h.low hlow (fun e => e.elim (fun e => h.o3.ne_blk hg (by decide) e) (fun e => blk_ne h.blk hg (by decide) e.symm)), h.var.fr hf (fun e => e.elim (fun e => h.o3.ne_blk h.var (by decide) e) (fun e => blk_ne h.blk h.var (by decide) e.symm)), hblk, h.o0.fr hf (fun k hk e => e.elim (fun e => h.o0.ne_row h.o3 (by decide) k hk e) (fun e => h.o0.ne_blk h.blk (by decide) (e ▸ hk))), h.o1.fr hf (fun k hk e => e.elim (fun e => h.o1.ne_row h.o3 (by decide) k hk e) (fun e => h.o1.ne_blk h.blk (by decide) (e ▸ hk))), h.oN.fr hf (fun k hk e => e.elim (fun e => h.oN.ne_row h.o3 (by decide) k hk e) (fun e => h.oN.ne_blk h.blk (by decide) (e ▸ hk))), hown, h.lq, h.lg, h.lo, h.fw, h.fb, h.fn, hz⟩, hf.below h.low hlow⟩
end DS
/-- What a byte is, in all that the reader gives. -/
theorem bytesR_st {n : Int} {s : Rst} (h : ∀ xs, s = some xs → Byt xs) : ∀ xs, (bytesR n s).2 = some xs → Byt xs := by
  intro xs e
  cases s with
  | none => simp [bytesR] at e
  | some ys =>
    simp only [bytesR] at e
    split at e
    · simp at e
    · simp at e
      subst e
      exact fun x hx => h ys rfl x (List.mem_of_mem_drop hx)
theorem bytesR_len {n : Nat} (s : Rst) : (bytesR n s).1.length ≤ n := by
  cases s with
  | none => simp [bytesR]
  | some ys =>
    simp only [bytesR]
    split
    · simp
    · simp; omega
theorem getD_byt {xs : List Int} (h : Byt xs) (k : Nat) : 0 ≤ xs.getD k 0 ∧ xs.getD k 0 < 256 := by
  by_cases hk : k < xs.length
  · have := h xs[k] (List.getElem_mem hk)
    simpa [List.getD, List.getElem?_eq_getElem hk] using this
  · simp [List.getD, List.getElem?_eq_none (by omega : xs.length ≤ k)]
theorem bytesR_b {n : Int} {s : Rst} (h : ∀ xs, s = some xs → Byt xs) : Byt (bytesR n s).1 := by
  cases s with
  | none => intro x hx; simp [bytesR] at hx
  | some ys => exact bytesR_byt (h ys rfl)
theorem halfR_rng {s : Rst} (h : ∀ xs, s = some xs → Byt xs) : 0 ≤ (halfR s).1 ∧ (halfR s).1 < 65536 := by
  rw [halfR_eq]
  have hb := bytesR_b (n := ((2 : Nat) : Int)) h
  have h0 := getD_byt hb 0
  have h1 := getD_byt hb 1
  dsimp only
  split <;> omega
theorem halfR_st {s : Rst} (h : ∀ xs, s = some xs → Byt xs) : ∀ xs, (halfR s).2 = some xs → Byt xs := by
  rw [halfR_eq]; exact bytesR_st h
theorem textR_st {s : Rst} (h : ∀ xs, s = some xs → Byt xs) : ∀ xs, (textR s).2 = some xs → Byt xs := by
  rw [textR_eq s h]
  split
  · exact bytesR_st h
  · exact bytesR_st (bytesR_st h)
theorem textR_size {s : Rst} (h : ∀ xs, s = some xs → Byt xs) : (textR s).1.size ≤ 255 := by
  rw [textR_eq s h]
  split
  · simp
  · have hb := getD_byt (bytesR_b (n := ((1 : Nat) : Int)) h) 0
    obtain ⟨k, hk⟩ : ∃ k : Nat, (bytesR ((1 : Nat) : Int) s).1.getD 0 0 = k := ⟨((bytesR ((1 : Nat) : Int) s).1.getD 0 0).toNat, by omega⟩
    rw [hk, strOfNums_size]
    have := bytesR_len (n := k) (bytesR ((1 : Nat) : Int) s).2
    omega
theorem nmR_fine {s : Rst} (h : ∀ xs, s = some xs → Byt xs) : (nmR s).1.fine := by
  have h1 := textR_size h
  have h2 := halfR_rng (textR_st h)
  have h3 := halfR_rng (halfR_st (textR_st h))
  refine ⟨by show (textR s).1.size ≤ _; omega, ?_, ?_⟩
  · show (Lit.int .i64 ((halfR (textR s).2).1 % 4)).wf = true
    simp [Lit.wf, IntKind.min, IntKind.max, IntKind.signed, IntKind.bits]; omega
  · show (Lit.int .i64 (halfR (halfR (textR s).2).2).1).wf = true
    simp [Lit.wf, IntKind.min, IntKind.max, IntKind.signed, IntKind.bits]; omega
theorem ndR_fine {s : Rst} (h : ∀ xs, s = some xs → Byt xs) : (ndR s).1.fine := by
  have h1 := textR_size h
  have h2 := halfR_rng (textR_st h)
  have h3 := halfR_rng (halfR_st (textR_st h))
  refine ⟨by show (textR s).1.size ≤ _; omega, ?_, ?_⟩
  · show (Lit.int .i64 (halfR (halfR (textR s).2).2).1).wf = true
    simp [Lit.wf, IntKind.min, IntKind.max, IntKind.signed, IntKind.bits]; omega
  · show (Lit.int .i64 (halfR (textR s).2).1).wf = true
    simp [Lit.wf, IntKind.min, IntKind.max, IntKind.signed, IntKind.bits]; omega
theorem wordR_rng {s : Rst} (h : ∀ xs, s = some xs → Byt xs) : 0 ≤ (wordR s).1 ∧ (wordR s).1 < 4294967296 := by
  have h1 := halfR_rng h
  have h2 := halfR_rng (halfR_st h)
  unfold wordR
  dsimp only
  omega
end Go.Proofs.Ytgmpcdonmlhohaa
