/- The law ringlaw1.WaitPlays: what is held between two plays. -/
import Derived.Test.YtenhcpobncmedaaWaH
namespace Go.Proofs.Ytenhcpobncmedaa
open Go.RowKit
set_option maxHeartbeats 400000
set_option linter.unusedVariables false
set_option linter.unusedSimpArgs false
/-- The plain part. -/
structure WaP (ws : List Wt) (f fl : Int → Option Int) (nn : Int) : Prop where
  nd : (wts ws).Nodup
  tk : ∀ t ∈ wts ws, 1 ≤ t ∧ t ≤ 16
  lk : ∀ t, (f t).getD 0 = (fl t).getD 0
  nn0 : 0 ≤ nn
  fk : ∀ t, (f t).getD 0 ≠ 0 → 1 ≤ t ∧ t ≤ 16
/-- The memory: the queue, the law's two lists and its map. -/
structure WaM (w wr : World) (g b bl : Nat) (vq vl va : Value) (ws : List Wt) (xl xa : List Int) (f fl : Int → Option Int) (cnt cl : Nat) (nn : Int) : Prop where
  q : WaSt wr w.heap.size g b vq ws f cnt nn
  l : Row wr w.heap.size 3 1 vl xl.length (xl.map (Value.int .i64))
  a : Row wr w.heap.size 3 1 va xa.length (xa.map (Value.int .i64))
  m : IntMap Try.prog wr 3 3 bl cl fl
  la : ∀ k, vl.ownBlock = some k → va.ownBlock ≠ some k
  bb : b ≠ bl
  lowm : w.heap.size ≤ bl
  low : Below w.heap.size w wr
namespace WaM
variable {w wr w' : World} {g b bl : Nat} {vq vl va : Value} {ws : List Wt} {xl xa : List Int} {f fl : Int → Option Int} {cnt cl : Nat} {nn : Int}
theorem grow (h : WaM w wr g b bl vq vl va ws xl xa f fl cnt cl nn) (hb : Below wr.heap.size wr w') : WaM w w' g b bl vq vl va ws xl xa f fl cnt cl nn :=
  ⟨h.q.grow hb, h.l.grow hb, h.a.grow hb, h.m.grow hb, h.la, h.bb, h.lowm, h.low.trans (hb.mono h.low.size)⟩
/-- What the queue's own blocks are not. -/
theorem qne (h : WaM w wr g b bl vq vl va ws xl xa f fl cnt cl nn) : ∀ k, WaF g b vq k → vl.ownBlock ≠ some k ∧ va.ownBlock ≠ some k ∧ k ≠ bl := fun k hk => by
  rcases hk with rfl | rfl | hk
  · exact ⟨wa_row_blk h.l h.q.blk (by decide), wa_row_blk h.a h.q.blk (by decide), h.m.blk_ne h.q.blk⟩
  · exact ⟨h.q.map.row_ne h.l, h.q.map.row_ne h.a, h.bb⟩
  · exact ⟨fun e => wa_row_row h.q.row h.l (by decide) k hk e, fun e => wa_row_row h.q.row h.a (by decide) k hk e, fun e => h.m.row_ne h.q.row (by rw [hk, e])⟩
/-- The queue goes on alone. -/
theorem go {ws' : List Wt} {f' : Int → Option Int} {cnt' : Nat} {nn' : Int} (h : WaM w wr g b bl vq vl va ws xl xa f fl cnt cl nn) (hg : WaGo wr w.heap.size g b vq ws' f' cnt' nn' w') :
    ∃ vq', WaM w w' g b bl vq' vl va ws' xl xa f' fl cnt' cl nn' := by
  obtain ⟨vq', a1, a2, a3⟩ := hg
  exact ⟨vq', a1, h.l.fr a2 (fun k hk hk' => (h.qne k hk').1 hk), h.a.fr a2 (fun k hk hk' => (h.qne k hk').2.1 hk), h.m.fr a2 (fun e => (h.qne _ e).2.2 rfl), h.la, h.bb, h.lowm, h.low.trans (a2.below h.low.size (fun k hk => (h.q.lt k hk).1))⟩
/-- The law's list gets one more. -/
theorem appL (h : WaM w wr g b bl vq vl va ws xl xa f fl cnt cl nn) {X : Obj} {v9 : Value} {t : Int} {w1 : World} {n : Nat} (hn : xl.length = n) (hr : Row w1 w.heap.size 3 1 v9 (n + 1) (xl.map (Value.int .i64) ++ [.int .i64 t])) (hg : (wr.alloc X).grownBy w1 vl.ownBlock)
    (ho : v9.ownBlock = vl.ownBlock ∨ v9.ownBlock = some (wr.heap.size + 1)) : WaM w w1 g b bl vq v9 va ws (xl ++ [t]) xa f fl cnt cl nn := by
  have hf : Fr (fun k => vl.ownBlock = some k) wr w1 := ((Fr.refl _ wr).alloc X).grown hg (fun k e _ => e)
  refine ⟨h.q.keep hf (fun k hk => (h.qne k hk).1), ?_, h.a.fr hf (fun k hk hk' => h.la k hk' hk), h.m.fr hf (fun e => h.m.row_ne h.l e), fun k hk hk' => ?_, h.bb, h.lowm, h.low.trans (hf.below h.low.size (fun k hk => (h.l.lt k hk).1))⟩
  · rw [List.length_append, List.map_append, hn]; exact hr
  · rcases own_cases ho hk with h1 | h1
    · exact h.la k h1 hk'
    · have := (h.a.lt k hk').2; omega
theorem appA (h : WaM w wr g b bl vq vl va ws xl xa f fl cnt cl nn) {X : Obj} {v9 : Value} {t : Int} {w1 : World} {n : Nat} (hn : xa.length = n) (hr : Row w1 w.heap.size 3 1 v9 (n + 1) (xa.map (Value.int .i64) ++ [.int .i64 t])) (hg : (wr.alloc X).grownBy w1 va.ownBlock)
    (ho : v9.ownBlock = va.ownBlock ∨ v9.ownBlock = some (wr.heap.size + 1)) : WaM w w1 g b bl vq vl v9 ws xl (xa ++ [t]) f fl cnt cl nn := by
  have hf : Fr (fun k => va.ownBlock = some k) wr w1 := ((Fr.refl _ wr).alloc X).grown hg (fun k e _ => e)
  refine ⟨h.q.keep hf (fun k hk => (h.qne k hk).2.1), h.l.fr hf (fun k hk hk' => h.la k hk hk'), ?_, h.m.fr hf (fun e => h.m.row_ne h.a e), fun k hk hk' => ?_, h.bb, h.lowm, h.low.trans (hf.below h.low.size (fun k hk => (h.a.lt k hk).1))⟩
  · rw [List.length_append, List.map_append, hn]; exact hr
  · rcases own_cases ho hk' with h1 | h1
    · exact h.la k hk h1
    · have := (h.l.lt k hk).2; omega
/-- The law's list, made anew. -/
theorem newL (h : WaM w wr g b bl vq vl va ws xl xa f fl cnt cl nn) {v9 : Value} {ys : List Int} {w1 : World} (hr : Row w1 wr.heap.size 3 1 v9 ys.length (ys.map (Value.int .i64))) (hb : Below wr.heap.size wr w1) : WaM w w1 g b bl vq v9 va ws ys xa f fl cnt cl nn :=
  have h1 := h.grow hb
  ⟨h1.q, hr.base_le h.low.size, h1.a, h1.m, fun k hk hk' => by have := (hr.lt k hk).1; have := (h.a.lt k hk').2; omega, h.bb, h.lowm, h1.low⟩
theorem newA (h : WaM w wr g b bl vq vl va ws xl xa f fl cnt cl nn) {v9 : Value} {ys : List Int} {w1 : World} (hr : Row w1 wr.heap.size 3 1 v9 ys.length (ys.map (Value.int .i64))) (hb : Below wr.heap.size wr w1) : WaM w w1 g b bl vq vl v9 ws xl ys f fl cnt cl nn :=
  have h1 := h.grow hb
  ⟨h1.q, h1.l, hr.base_le h.low.size, h1.m, fun k hk hk' => by have := (hr.lt k hk').1; have := (h.l.lt k hk).2; omega, h.bb, h.lowm, h1.low⟩
/-- The law's map, turned. -/
theorem setM (h : WaM w wr g b bl vq vl va ws xl xa f fl cnt cl nn) {fl' : Int → Option Int} {cl' : Nat} {w1 : World} (hm : IntMap Try.prog w1 3 3 bl cl' fl') (hg : wr.grownBy w1 (some bl)) : WaM w w1 g b bl vq vl va ws xl xa f fl' cnt cl' nn := by
  have hf : Fr (fun k => k = bl) wr w1 := (Fr.refl _ wr).grown hg (fun k e _ => by injection e with e; exact e.symm)
  exact ⟨h.q.keep hf (fun k hk => (h.qne k hk).2.2), h.l.fr hf (fun k hk hk' => h.m.row_ne h.l (by rw [hk, hk'])), h.a.fr hf (fun k hk hk' => h.m.row_ne h.a (by rw [hk, hk'])), hm, h.la, h.bb, h.lowm, h.low.trans (hf.below h.low.size (fun k hk => by rw [hk]; exact h.lowm))⟩
theorem drew (h : WaM w wr g b bl vq vl va ws xl xa f fl cnt cl nn) : WaM w wr.drew g b bl vq vl va ws xl xa f fl cnt cl nn := ⟨h.q.drew, h.l, h.a, h.m, h.la, h.bb, h.lowm, h.low.trans ⟨rfl, rfl, rfl, Nat.le_refl _, fun _ _ => rfl⟩⟩
theorem eqs {ws' : List Wt} {xl' xa' : List Int} (h : WaM w wr g b bl vq vl va ws xl xa f fl cnt cl nn) (h1 : ws = ws') (h2 : xl = xl') (h3 : xa = xa') : WaM w wr g b bl vq vl va ws' xl' xa' f fl cnt cl nn := by subst h1; subst h2; subst h3; exact h
end WaM
theorem WaP.new : WaP [] (fun _ => none) (fun _ => none) 0 := ⟨by simp [wts], fun t ht => by simp [wts] at ht, fun _ => rfl, Int.le_refl _, fun t h => absurd rfl h⟩
theorem wa_nd_len : ∀ (n : Nat) (l : List Int), l.Nodup → (∀ x ∈ l, 0 ≤ x ∧ x < n) → l.length ≤ n
  | 0, l, _, h => by
    cases l with
    | nil => simp
    | cons a l => have := h a (by simp); omega
  | n + 1, l, hn, h => by
    have h1 := wa_nd_len n (l.erase n) (hn.erase _) (fun x hx => by
      have hx' := (hn.mem_erase_iff).1 hx
      have := h x hx'.2
      have : x ≠ n := hx'.1
      omega)
    have := List.length_erase_le (a := (n : Int)) (l := l)
    by_cases hm : (n : Int) ∈ l
    · rw [List.length_erase_of_mem hm] at h1; omega
    · rw [List.erase_of_not_mem hm] at h1; omega
theorem WaP.len {ws : List Wt} {f fl : Int → Option Int} {nn : Int} (h : WaP ws f fl nn) : ws.length ≤ 17 := by
  have := wa_nd_len 17 (wts ws) h.nd (fun x hx => by obtain ⟨h1, h2⟩ := h.tk x hx; omega)
  unfold wts at this
  simpa using this
theorem WaP.app {ws : List Wt} {f fl : Int → Option Int} {nn t : Int} {al : Bool} (h : WaP ws f fl nn) (ht : 1 ≤ t ∧ t ≤ 16) (hc : (wts ws).contains t = false) : WaP (ws ++ [⟨t, al⟩]) f fl nn := by
  have hn : t ∉ wts ws := by simpa using hc
  refine ⟨?_, fun x hx => ?_, h.lk, h.nn0, h.fk⟩
  · rw [wts_app, List.nodup_append]
    exact ⟨h.nd, by simp, fun a ha b hb => by simp at hb; subst hb; rintro rfl; exact hn ha⟩
  · rw [wts_app, List.mem_append] at hx
    rcases hx with hx | hx
    · exact h.tk x hx
    · simp at hx; subst hx; exact ht
theorem WaP.sub {ws : List Wt} {f fl : Int → Option Int} {nn nn' : Int} (h : WaP ws f fl nn) (p : Wt → Bool) (h0 : 0 ≤ nn') : WaP (ws.filter p) f fl nn' := by
  have hs : (wts (ws.filter p)).Sublist (wts ws) := by unfold wts; exact (List.filter_sublist).map _
  exact ⟨h.nd.sublist hs, fun t ht => h.tk t (hs.subset ht), h.lk, h0, h.fk⟩
theorem WaP.out {ws : List Wt} {f fl : Int → Option Int} {nn : Int} (h : WaP ws f fl nn) (t : Int) : WaP (wout ws t) f fl nn := h.sub _ h.nn0
theorem WaP.wake {ws : List Wt} {f fl : Int → Option Int} {nn : Int} (h : WaP ws f fl nn) (n : Int) : WaP (wk ws n).left f fl (nn + 1) := by
  rw [← wouts_wk ws n h.nd, wouts_eq]
  exact h.sub _ (by have := h.nn0; omega)
theorem WaP.look {ws : List Wt} {f fl : Int → Option Int} {nn : Int} (h : WaP ws f fl nn) (t m : Int) (ht : 1 ≤ t ∧ t ≤ 16) : WaP ws (fun z => if z = t then some m else f z) (fun z => if z = t then some m else fl z) nn :=
  ⟨h.nd, h.tk, fun x => by by_cases hx : x = t <;> simp [hx, h.lk], h.nn0, fun x hx => by
    by_cases hxt : x = t
    · rw [hxt]; exact ht
    · exact h.fk x (by simpa [hxt] using hx)⟩
theorem WaP.sleep {ws : List Wt} {f fl : Int → Option Int} {nn : Int} (h : WaP ws f fl nn) (t : Int) : WaP ws (fun z => if z = t then none else f z) (fun z => if z = t then some 0 else fl z) nn :=
  ⟨h.nd, h.tk, fun x => by by_cases hx : x = t <;> simp [hx, h.lk], h.nn0, fun x hx => by
    by_cases hxt : x = t
    · simp [hxt] at hx
    · exact h.fk x (by simpa [hxt] using hx)⟩
end Go.Proofs.Ytenhcpobncmedaa
