/- The law ringlaw1.WaitPlays: contract of without, and the plain law of who is woken. -/
import Derived.Test.YtenhcpobncmedaaWaG
namespace Go.Proofs.Ytenhcpobncmedaa
open Go.RowKit
set_option maxHeartbeats 400000
set_option linter.unusedVariables false
set_option linter.unusedSimpArgs false
def WithoutPost (w : World) (ys : List Int) (e : Ending) (w' : World) : Prop := ∃ v, e = .returned v ∧ Row w' w.heap.size 3 1 v ys.length (ys.map (Value.int .i64)) ∧ Below w.heap.size w w'
set_option maxRecDepth 100000 in
theorem without47 (A : Option Addr) (n c : Nat) (xs : List Int) (t : Int) (w : World) (B : Nat) (h : RD w B A n xs) (hB : B ≤ w.heap.size) (hn : n ≤ 1000) :
    Calls Try.prog 47 #[.slice A n c, .int .i64 t] w (WithoutPost w (without xs t)) := by
  have hba : Below w.heap.size w (w.alloc (.cells #[.int .i64 t] 3)) := (Below.refl _ _).alloc (Nat.le_refl _) _
  have HC := Lib.hid (clone_any A n c xs (w.alloc (.cells #[.int .i64 t] 3)) B (Reads.alloc h hB _) (by simp; omega) (by omega))
  have HB := Lib.hid hba
  have hmf : ∀ fn first cap w, (Instr.makeFunc fn first cap).run Try.prog w = .ok (.func fn first cap) w := fun _ _ _ _ => rfl
  clear h hba
  go_enter Try.func47, Try.ntmps47
  go_wp2_with fail
  refine HC.out.mono ?_
  rintro e w1 ⟨v1, rfl, hr, hb⟩
  obtain ⟨A1, c1, rfl, _, _⟩ := hr.shape
  have hq : w1.cell? ⟨w.heap.size, 0, none⟩ = some (.int .i64 t) := by
    rw [hb.cell (p := ⟨w.heap.size, 0, none⟩) (by simp), (Blk.new w #[.int .i64 t] 3).cell]; rfl
  have hbw : Below w.heap.size w w1 := HB.out.trans (hb.mono HB.out.size)
  have HD := Lib.hid (deleteFunc115 w.heap.size t A1 n c1 xs w1 _ hr hq (fun e => by have := (hr.lt _ e).1; simp at this; omega))
  have HLO : Hid (∀ k, (Value.slice A1 0 0).ownBlock = some k → w.heap.size ≤ k) := Lib.hid (fun k hk => by
    rw [pr_own (n' := n) (c' := c1)] at hk
    have := (hr.lt k hk).1
    simp at this; omega)
  clear hr hb
  go_wp2_with fail
  refine HD.out.mono ?_
  rintro e w2 ⟨rfl, hr2, hf2⟩
  have hfin : Hid (Row w2 w.heap.size 3 1 (.slice A1 (without xs t).length c1) (without xs t).length ((without xs t).map (Value.int .i64)) ∧ Below w.heap.size w w2) := Lib.hid ⟨hr2.base_le (by simp), hbw.trans (hf2.below hbw.size HLO.out)⟩
  clear hr2 hf2
  go_wp2
  go_ret
  exact ⟨_, rfl, hfin.out.1, hfin.out.2⟩
/-- The law's own list of who wants to be woken alone. -/
def alone (ws : List Wt) : List Int := wts (ws.filter Wt.al)
theorem alone_wout (ws : List Wt) (t : Int) : alone (wout ws t) = without (alone ws) t := by
  unfold alone
  rw [← wts_wout]
  unfold wout
  rw [List.filter_filter, List.filter_filter]
  congr 2
  funext c
  exact Bool.and_comm _ _
theorem alone_app (ws : List Wt) (t : Int) (al : Bool) : alone (ws ++ [⟨t, al⟩]) = if al = true then alone ws ++ [t] else alone ws := by
  unfold alone wts
  cases al <;> simp [List.filter_append]
theorem wts_app (ws : List Wt) (t : Int) (al : Bool) : wts (ws ++ [⟨t, al⟩]) = wts ws ++ [t] := by simp [wts]
theorem wts_inj : ∀ {ws : List Wt}, (wts ws).Nodup → ∀ {c c' : Wt}, c ∈ ws → c' ∈ ws → c.t = c'.t → c = c'
  | [], _, c, c', h, _, _ => by simp at h
  | a :: r, hd, c, c', h, h', e => by
    unfold wts at hd
    rw [List.map_cons, List.nodup_cons] at hd
    have ih := fun {c c' : Wt} => wts_inj (ws := r) hd.2 (c := c) (c' := c')
    rcases List.mem_cons.1 h with h1 | h1
    · rcases List.mem_cons.1 h' with h2 | h2
      · rw [h1, h2]
      · exact absurd (List.mem_map.2 ⟨c', h2, by rw [← e, h1]⟩) hd.1
    · rcases List.mem_cons.1 h' with h2 | h2
      · exact absurd (List.mem_map.2 ⟨c, h1, by rw [e, h2]⟩) hd.1
      · exact ih h1 h2 e
/-- Nobody waits twice. -/
theorem alone_contains {ws : List Wt} (hd : (wts ws).Nodup) {c : Wt} (hc : c ∈ ws) : (alone ws).contains c.t = c.al := by
  have hun : ∀ c' ∈ ws, c'.t = c.t → c' = c := fun c' hc' e => wts_inj hd hc' hc e
  cases hal : c.al with
  | true =>
    rw [List.contains_iff_mem]
    exact List.mem_map.2 ⟨c, List.mem_filter.2 ⟨hc, hal⟩, rfl⟩
  | false =>
    apply Bool.eq_false_iff.2
    intro h
    rw [List.contains_iff_mem] at h
    obtain ⟨c', h1, h2⟩ := List.mem_map.1 h
    obtain ⟨h3, h4⟩ := List.mem_filter.1 h1
    rw [hun c' h3 h2] at h4
    rw [hal] at h4
    cases h4
/-- Who is left is who is not woken. -/
theorem wk_all (ws : List Wt) (n : Int) : ∀ k, k ≤ ws.length → ∀ t, t ∈ wts (ws.take k) ↔ (t ∈ (wk (ws.take k) n).out ∨ t ∈ wts (wk (ws.take k) n).left)
  | 0, _, t => by simp [wk, wts]
  | k + 1, h, t => by
    have ih := wk_all ws n k (by omega) t
    rw [wk_take ws n (by omega), wts_take ws (by omega), List.mem_append, ih]
    unfold Wk.step
    split
    · simp [wts, List.mem_append]; grind
    · split
      · simp [wts, List.mem_append]; grind
      · simp [wts, List.mem_append]; grind
/-- The law's loop: all that are woken, taken out one after another. -/
def wouts (ws : List Wt) (ts : List Int) : List Wt := ts.foldl wout ws
theorem wouts_eq : ∀ (ts : List Int) (ws : List Wt), wouts ws ts = ws.filter fun c => !ts.contains c.t
  | [], ws => by
    unfold wouts
    simp
    exact (List.filter_eq_self.2 (fun _ _ => rfl)).symm
  | t :: ts, ws => by
    have ih := wouts_eq ts (wout ws t)
    unfold wouts at ih ⊢
    rw [List.foldl_cons, ih]
    unfold wout
    rw [List.filter_filter]
    congr 1
    funext c
    rw [List.contains_cons]
    cases h1 : c.t == t <;> cases h2 : ts.contains c.t <;> simp [bne, h1]
theorem nodup_take {ws : List Wt} (hd : (wts ws).Nodup) {k : Nat} (h : k < ws.length) : (ws.getD k Wt.zero).t ∉ wts (ws.take k) := by
  have h1 : (wts (ws.take (k + 1))).Nodup := by
    unfold wts at hd ⊢
    rw [List.map_take]
    exact hd.sublist (List.take_sublist _ _)
  rw [wts_take ws h, List.nodup_append] at h1
  intro hm
  exact h1.2.2 _ hm _ (by simp) rfl
theorem wk_left (ws : List Wt) (n : Int) (hd : (wts ws).Nodup) : ∀ k, k ≤ ws.length → (wk (ws.take k) n).left = (ws.take k).filter fun c => !(wk (ws.take k) n).out.contains c.t
  | 0, _ => by simp [wk]
  | k + 1, h => by
    have hk : k < ws.length := by omega
    have ih := wk_left ws n hd k (by omega)
    have hnt := nodup_take hd hk
    have hall := wk_all ws n k (by omega)
    have hg : ws[k] = ws.getD k Wt.zero := by simp [List.getD, List.getElem?_eq_getElem hk]
    have hstep := wk_take ws n hk
    generalize ws.getD k Wt.zero = y at *
    have hout : (y).t ∉ (wk (ws.take k) n).out := fun hm => hnt ((hall _).2 (.inl hm))
    have hsame : (ws.take k).filter (fun c => !((wk (ws.take k) n).out ++ [(y).t]).contains c.t) = (ws.take k).filter (fun c => !(wk (ws.take k) n).out.contains c.t) := by
      apply List.filter_congr
      intro c hc
      have : c.t ≠ (y).t := fun e => hnt (by rw [← e]; exact List.mem_map_of_mem hc)
      simp [this]
    have hlast : ∀ p : Wt → Bool, (ws.take (k + 1)).filter p = (ws.take k).filter p ++ (if p (y) = true then [y] else []) := fun p => by
      rw [List.take_succ_eq_append_getElem hk, List.filter_append, hg]
      cases hp : p (y) <;> simp [hp]
    rw [hstep]
    unfold Wk.step
    split
    · dsimp only
      rw [hlast, hsame, ih]; simp
    · split
      · dsimp only
        rw [hlast, hsame, ih]; simp
      · dsimp only
        rw [hlast, ← ih, if_pos (by simpa using hout)]
/-- What the law's loop leaves is what the queue is left with. -/
theorem wouts_wk (ws : List Wt) (n : Int) (hd : (wts ws).Nodup) : wouts ws (wk ws n).out = (wk ws n).left := by
  have h := wk_left ws n hd ws.length (Nat.le_refl _)
  rw [List.take_length] at h
  rw [wouts_eq, h]
end Go.Proofs.Ytenhcpobncmedaa
