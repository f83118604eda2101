/- A queue of who waits (wait.Queue): what is held of one; contracts of New, has and Add. -/
import Derived.Test.YtenhcpobncmedaaWaA
import Derived.Test.YtenhcpobncmedaaMapF
namespace Go
open Go.Maps
theorem IntMap.blk_ne {P : Program} {w : World} {k e : TypeId} {b n g : Nat} {f : Int → Option Int} {cs : Array Value} {t : TypeId} (h : IntMap P w k e b n f) (hb : Blk w g cs t) : g ≠ b := by
  obtain ⟨D, ⟨es, c, h1, h4⟩, h2, h3⟩ := h
  rintro rfl
  unfold Blk at hb
  rw [hb] at h1
  injection h1 with h1
  cases h1
theorem IntMap.row_ne {P : Program} {w : World} {k e : TypeId} {b n : Nat} {f : Int → Option Int} {base e' size m : Nat} {v : Value} {xs : List Value} (h : IntMap P w k e b n f) (hr : Row w base e' size v m xs) : v.ownBlock ≠ some b := by
  rcases hr.2 with ⟨rfl, _⟩ | ⟨g', o, cap, cur, rfl, _, hg, _⟩
  · simp [Value.ownBlock]
  · intro he
    have : g' = b := by simpa [Value.ownBlock] using he
    exact h.blk_ne (cs := cur) (t := e') hg this
end Go
namespace Go.Proofs.Ytenhcpobncmedaa
open Go.RowKit
set_option maxHeartbeats 400000
set_option linter.unusedVariables false
set_option linter.unusedSimpArgs false
theorem wa_row_blk {w : World} {base e size n g : Nat} {v : Value} {xs : List Value} {cs : Array Value} {t : TypeId} (h : Row w base e size v n xs) (hb : Blk w g cs t) (ht : e ≠ t) : v.ownBlock ≠ some g := by
  rcases h.2 with ⟨rfl, _⟩ | ⟨g', o, cap, cur, rfl, _, hg, _⟩
  · simp [Value.ownBlock]
  · intro he
    have : g' = g := by simpa [Value.ownBlock] using he
    subst this
    unfold Blk at hb
    rw [hb] at hg
    injection hg with hg
    injection hg with _ hg
    exact ht hg.symm
theorem infoWt : (Try.prog.info? 155).map (fun i => (i.zero, i.size, i.bytes)) = some (some (.agg #[.int .i64 0, .bool false]), 2, 16) := by kernel_rfl
theorem reads_two (w : World) (a b : Value) (t : TypeId) : Reads (w.alloc (.cells #[a, b] t)) (w.heap.size + 1) 2 (some ⟨w.heap.size, 0, none⟩) 1 [a, b] := by
  refine ⟨rfl, fun _ => ⟨w.heap.size, 0, rfl, by omega, fun j y hy => ?_⟩⟩
  rw [(Blk.new w #[a, b] t).cell, Nat.zero_add]
  simpa using hy
/-- A queue at g, its marks at b. -/
structure WaSt (w : World) (B g b : Nat) (vl : Value) (ws : List Wt) (f : Int → Option Int) (cnt : Nat) (nn : Int) : Prop where
  blk : Blk w g #[vl, .map (some b), .int .i64 nn] 153
  row : Row w B 155 2 vl ws.length (ws.flatMap Wt.cells)
  map : IntMap Try.prog w 3 3 b cnt f
  low : B ≤ g
  lowb : B ≤ b
def WaF (g b : Nat) (vl : Value) (k : Nat) : Prop := k = g ∨ k = b ∨ vl.ownBlock = some k
def WaGo (w : World) (B g b : Nat) (vl : Value) (ws : List Wt) (f : Int → Option Int) (cnt : Nat) (nn : Int) (w' : World) : Prop :=
  ∃ vl', WaSt w' B g b vl' ws f cnt nn ∧ Fr (WaF g b vl) w w' ∧ ∀ k, WaF g b vl' k → WaF g b vl k ∨ w.heap.size ≤ k
namespace WaSt
variable {w w' : World} {B g b : Nat} {vl : Value} {ws : List Wt} {f : Int → Option Int} {cnt : Nat} {nn : Int}
theorem keep {S : Nat → Prop} (h : WaSt w B g b vl ws f cnt nn) (hf : Fr S w w') (hn : ∀ k, WaF g b vl k → ¬ S k) : WaSt w' B g b vl ws f cnt nn :=
  ⟨h.blk.fr hf (hn g (.inl rfl)), h.row.fr hf (fun k hk => hn k (.inr (.inr hk))), h.map.fr hf (hn b (.inr (.inl rfl))), h.low, h.lowb⟩
theorem grow (h : WaSt w B g b vl ws f cnt nn) (hb : Below w.heap.size w w') : WaSt w' B g b vl ws f cnt nn := h.keep (Fr.of_grow hb) (fun _ _ h => h)
theorem lt (h : WaSt w B g b vl ws f cnt nn) : ∀ k, WaF g b vl k → B ≤ k ∧ k < w.heap.size := fun k hk => by
  rcases hk with rfl | rfl | hk
  · exact ⟨h.low, h.blk.lt⟩
  · exact ⟨h.lowb, h.map.lt⟩
  · exact h.row.lt k hk
theorem ne (h : WaSt w B g b vl ws f cnt nn) : vl.ownBlock ≠ some g := wa_row_blk h.row h.blk (by decide)
theorem rs (h : WaSt w B g b vl ws f cnt nn) : ∃ A c, vl = .slice A ws.length c ∧ RS Wt.cells 2 w w.heap.size A ws.length ws ∧ ws.length ≤ c ∧ c ≤ maxLen := by
  obtain ⟨A, c, hv, h1, h2⟩ := h.row.shape
  have hr := h.row
  rw [hv] at hr
  exact ⟨A, c, hv, ⟨hr.reads, rfl⟩, h1, h2⟩
/-- The row's slice, set anew. -/
theorem setRow (h : WaSt w B g b vl ws f cnt nn) {v' : Value} {ws' : List Wt} (hr : Row w B 155 2 v' ws'.length (ws'.flatMap Wt.cells)) : WaSt (w.setCell ⟨g, 0, none⟩ v') B g b v' ws' f cnt nn := by
  refine ⟨?_, hr.setCell (p := ⟨g, 0, none⟩) (wa_row_blk hr h.blk (by decide)) v', h.map.fr ((Fr.refl (fun k => k = g) w).setCell (p := ⟨g, 0, none⟩) (fun _ => rfl) v') (fun e => h.map.blk_ne h.blk e.symm), h.low, h.lowb⟩
  have := h.blk.set 0 v'
  simpa using this
/-- The number, set anew. -/
theorem setN (h : WaSt w B g b vl ws f cnt nn) (x : Int) : WaSt (w.setCell ⟨g, 2, none⟩ (.int .i64 x)) B g b vl ws f cnt x := by
  refine ⟨?_, h.row.setCell (p := ⟨g, 2, none⟩) h.ne _, h.map.fr ((Fr.refl (fun k => k = g) w).setCell (p := ⟨g, 2, none⟩) (fun _ => rfl) _) (fun e => h.map.blk_ne h.blk e.symm), h.low, h.lowb⟩
  have := h.blk.set 2 (.int .i64 x)
  simpa using this
end WaSt
theorem wa_makeMap (w : World) : (Instr.makeMap 78 none).run Try.prog w = .ok (.map (some w.heap.size)) (w.alloc (.map #[] 0)) := by
  first | rfl | simp [Instr.makeMap, run_underlying Try.underlying78, go_sem]
set_option maxRecDepth 100000 in
theorem new42 (w : World) : Calls Try.prog 42 #[] w fun e w' => e = .returned (.pointer (some ⟨w.heap.size + 1, 0, none⟩)) ∧ w' = (w.alloc (.map #[] 0)).alloc (.cells #[.slice none 0 0, .map (some w.heap.size), .int .i64 0] 153) := by
  have hmk := wa_makeMap
  go_enter Try.func42, Try.ntmps42
  go_wp2
  go_ret
  exact ⟨rfl, rfl⟩
theorem wa_new (w : World) (B : Nat) (hB : B ≤ w.heap.size) : WaSt ((w.alloc (.map #[] 0)).alloc (.cells #[.slice none 0 0, .map (some w.heap.size), .int .i64 0] 153)) B (w.heap.size + 1) w.heap.size (.slice none 0 0) [] (fun _ => none) 0 0 := by
  refine ⟨?_, Row.nil _ _ _ _, (IntMap.made Try.prog w 3 3).alloc _, by omega, hB⟩
  have := Blk.new (w.alloc (.map #[] 0)) #[.slice none 0 0, .map (some w.heap.size), .int .i64 0] 153
  simpa using this
set_option maxRecDepth 100000 in
theorem has111 (g b : Nat) (vl : Value) (ws : List Wt) (f : Int → Option Int) (cnt : Nat) (nn t : Int) (w : World) (B : Nat) (h : WaSt w B g b vl ws f cnt nn) :
    Calls Try.prog 111 #[.pointer (some ⟨g, 0, none⟩), .int .i64 t] w fun e w' => e = .returned (.bool ((wts ws).contains t)) ∧ Below w.heap.size w w' := by
  obtain ⟨A, c, hv, hrs, hc1, hc2⟩ := h.rs
  have c0 := h.blk.cell 0
  rw [hv] at c0
  have hgl := h.blk.lt
  have hn : ¬ g = w.heap.size := by omega
  have hmf : ∀ fn first cap w, (Instr.makeFunc fn first cap).run Try.prog w = .ok (.func fn first cap) w := fun _ _ _ _ => rfl
  have HX := Lib.hid (has153 t w.heap.size A ws.length c ws (w.alloc (.cells #[.int .i64 t] 3)) w.heap.size (hrs.below' ((Below.refl _ _).alloc (Nat.le_refl _) _) (Nat.le_refl _)) (by simp) (by unfold maxLen at hc2; omega) (by rw [(Blk.new w #[.int .i64 t] 3).cell]; rfl))
  clear h hv hrs
  generalize (wts ws).contains t = q at *
  generalize ws.length = l at *
  go_enter Try.func111, Try.ntmps111
  go_wp2_with fail
  refine HX.out.mono ?_
  rintro e w1 ⟨rfl, hb⟩
  go_wp2
  go_ret
  exact ⟨rfl, ((Below.refl _ _).alloc (Nat.le_refl _) _).trans (hb.mono (by simp))⟩
set_option maxRecDepth 100000 in
theorem add_bad (g : Nat) (t : Int) (al : Bool) (w : World) (h : ¬ (1 ≤ t ∧ t ≤ 16)) :
    Calls Try.prog 43 #[.pointer (some ⟨g, 0, none⟩), .int .i64 t, .bool al] w fun e w' => e = .returned (.int .i64 1) ∧ w = w' := by
  by_cases h1 : t < 1
  · have d1 : decide (t < 1) = true := by simpa using h1
    clear h h1
    go_enter Try.func43, Try.ntmps43
    go_wp2
    go_ret
    exact ⟨rfl, rfl⟩
  have d1 : decide (t < 1) = false := by simpa using h1
  have d2 : decide (16 < t) = true := by simp; omega
  clear h h1
  go_enter Try.func43, Try.ntmps43
  go_wp2
  go_ret
  exact ⟨rfl, rfl⟩
set_option maxRecDepth 100000 in
theorem add_there (g b : Nat) (vl : Value) (ws : List Wt) (f : Int → Option Int) (cnt : Nat) (nn t : Int) (al : Bool) (w : World) (B : Nat) (h : WaSt w B g b vl ws f cnt nn) (ht : 1 ≤ t ∧ t ≤ 16) (hc : (wts ws).contains t = true) :
    Calls Try.prog 43 #[.pointer (some ⟨g, 0, none⟩), .int .i64 t, .bool al] w fun e w' => e = .returned (.int .i64 5) ∧ Below w.heap.size w w' := by
  have d1 : decide (t < 1) = false := by simp; omega
  have d2 : decide (16 < t) = false := by simp; omega
  have HX := Lib.hid (has111 g b vl ws f cnt nn t w B h)
  rw [hc] at HX
  clear h hc ht
  go_enter Try.func43, Try.ntmps43
  go_wp2_with fail
  refine HX.out.mono ?_
  rintro e w1 ⟨rfl, hb⟩
  go_wp2
  go_ret
  exact ⟨rfl, hb⟩
def WAddPost (w : World) (B g b : Nat) (vl : Value) (ws : List Wt) (f : Int → Option Int) (cnt : Nat) (nn : Int) (e : Ending) (w' : World) : Prop := e = .returned (.int .i64 0) ∧ WaGo w B g b vl ws f cnt nn w'
theorem wa_oneCell (t : Int) (al : Bool) : ∀ u ∈ [Value.int .i64 t, .bool al], u.oneCell' = true := by
  intro u hu
  simp at hu
  rcases hu with rfl | rfl <;> rfl
theorem wa_app {w w1 w2 : World} {B g b : Nat} {A A2 : Option Addr} {l c c2 : Nat} {ws : List Wt} {f : Int → Option Int} {cnt : Nat} {nn t : Int} {al : Bool} {X : Obj} (h : WaSt w B g b (.slice A l c) ws f cnt nn) (hl : ws.length = l) (hb : Below w.heap.size w w1)
    (hr : Row w2 B 155 2 (.slice A2 (l + 1) c2) (l + 1) (ws.flatMap Wt.cells ++ [.int .i64 t, .bool al])) (hg : (w1.alloc X).grownBy w2 (Value.slice A l c).ownBlock) (ho : (Value.slice A2 (l + 1) c2).ownBlock = (Value.slice A l c).ownBlock ∨ (Value.slice A2 (l + 1) c2).ownBlock = some (w1.heap.size + 1)) :
    WaGo w B g b (.slice A l c) (ws ++ [⟨t, al⟩]) f cnt nn (w2.setCell ⟨g, 0, none⟩ (.slice A2 (l + 1) c2)) ∧ w2.cell? ⟨g, 0, none⟩ = some (.slice A l c) ∧ w2.frozen? ⟨g, 0, none⟩ = false ∧ g < w2.heap.size := by
  have h1 := h.grow hb
  have hf2 : Fr (fun k => (Value.slice A l c).ownBlock = some k) w1 w2 := ((Fr.refl _ w1).alloc X).grown hg (fun k e _ => e)
  have hblk : Blk w2 g #[.slice A l c, .map (some b), .int .i64 nn] 153 := h1.blk.fr hf2 (fun e => h1.ne e)
  have hmap : IntMap Try.prog w2 3 3 b cnt f := h1.map.fr hf2 (fun e => h1.map.row_ne h1.row e)
  have hr' : Row w2 B 155 2 (.slice A2 (l + 1) c2) (ws ++ [(⟨t, al⟩ : Wt)]).length ((ws ++ [(⟨t, al⟩ : Wt)]).flatMap Wt.cells) := by
    rw [List.length_append, List.flatMap_append, hl]
    exact hr
  refine ⟨⟨_, ⟨?_, hr'.setCell (p := ⟨g, 0, none⟩) (wa_row_blk hr' hblk (by decide)) _, hmap.fr ((Fr.refl (fun k => k = g) w2).setCell (p := ⟨g, 0, none⟩) (fun _ => rfl) _) (fun e => hmap.blk_ne hblk e.symm), h.low, h.lowb⟩, ?_, fun k hk => ?_⟩, ?_, hblk.free 0, hblk.lt⟩
  · have := hblk.set 0 (.slice A2 (l + 1) c2)
    simpa using this
  · exact (((Fr.of_grow hb).mono (fun _ _ h => h.elim)).trans (hf2.mono (S' := WaF g b (.slice A l c)) (fun k _ e => .inr (.inr e))) (fun _ _ h => h)).setCell (p := ⟨g, 0, none⟩) (fun _ => .inl rfl) _
  · have := hb.size
    rcases hk with hk | hk | hk
    · exact .inl (.inl hk)
    · exact .inl (.inr (.inl hk))
    · rcases own_cases ho hk with h1 | h1
      · exact .inl (.inr (.inr h1))
      · exact .inr (by omega)
  · exact hblk.cell 0
set_option maxRecDepth 100000 in
theorem add_ok (g b : Nat) (vl : Value) (ws : List Wt) (f : Int → Option Int) (cnt : Nat) (nn t : Int) (al : Bool) (w : World) (B : Nat) (h : WaSt w B g b vl ws f cnt nn) (hB : B ≤ w.heap.size) (ht : 1 ≤ t ∧ t ≤ 16) (hc : (wts ws).contains t = false) (hl : ws.length ≤ 1000) :
    Calls Try.prog 43 #[.pointer (some ⟨g, 0, none⟩), .int .i64 t, .bool al] w (WAddPost w B g b vl (ws ++ [⟨t, al⟩]) f cnt nn) := by
  obtain ⟨i0, hi, hz0, hz1, hz2⟩ := info_parts infoWt
  have d1 : decide (t < 1) = false := by simp; omega
  have d2 : decide (16 < t) = false := by simp; omega
  have HX := Lib.hid (has111 g b vl ws f cnt nn t w B h)
  rw [hc] at HX
  obtain ⟨A, c, hv, _, hc1, hc2⟩ := h.rs
  subst hv
  have c0 : w.cell? ⟨g, 0, none⟩ = some (.slice A ws.length c) := h.blk.cell 0
  have hgl := h.blk.lt
  have H := Lib.hid h
  have hrow := h.row
  clear h hc ht
  generalize hll : ws.length = l at *
  have HLL := Lib.hid hll
  clear hll
  go_enter Try.func43, Try.ntmps43
  go_wp2_with fail
  refine HX.out.mono ?_
  rintro e w1 ⟨rfl, hb⟩
  have k0 := (hb.cell (p := ⟨g, 0, none⟩) hgl).trans c0
  have klt : g < w1.heap.size := Nat.lt_of_lt_of_le hgl hb.size
  have hsz := hb.size
  have hr1 := hrow.grow hb
  go_wp2_with (at_builtin; refine wpList_append_row _ rfl (.tmp 20) (.tmp 24) 151 rfl B 155 i0 (.agg #[.int .i64 0, .bool false]) 2 16 Try.underlying151 hi hz0 hz1 hz2 rfl (by decide) (.slice A l c) l (ws.flatMap Wt.cells) rfl (hr1.alloc _) (w1.heap.size + 1) (some ⟨w1.heap.size, 0, none⟩) 1 1 [.int .i64 t, .bool al] rfl (reads_two w1 (.int .i64 t) (.bool al) 155) (wa_oneCell t al) (by unfold maxLen; omega) (by omega) (by simp; omega) ?_)
  intro A2 c2 w2 hr2 hg2 ho2
  obtain ⟨hgo, m0, mf, ml⟩ := wa_app H.out HLL.out hb hr2 hg2 (by simpa using ho2)
  have HGO := Lib.hid hgo
  clear hgo hr2 hg2 ho2
  go_wp2
  go_ret
  exact ⟨rfl, HGO.out⟩
end Go.Proofs.Ytenhcpobncmedaa
