/- Contracts of the methods of prio.Prio. -/
import Derived.Test.YtenhcpobncmedaaPrC
import Derived.Deep.RegionLaw
namespace Go.Proofs.Ytenhcpobncmedaa
open Go.RowKit
set_option maxHeartbeats 400000
set_option linter.unusedVariables false
set_option linter.unusedSimpArgs false
def maskB (b : Nat → Bool) : Nat → Int
  | 0 => 0
  | k + 1 => maskB b k + if b k then (2 : Int) ^ k else 0
theorem maskB_congr {p q : Nat → Bool} : ∀ {n : Nat}, (∀ i, i < n → p i = q i) → maskB p n = maskB q n
  | 0, _ => rfl
  | n + 1, h => by simp only [maskB]; rw [maskB_congr (fun i hi => h i (by omega)), h n (by omega)]
def lst8 (b0 b1 b2 b3 b4 b5 b6 b7 : Bool) (i : Nat) : Bool := [b0, b1, b2, b3, b4, b5, b6, b7].getD i false
theorem or_key : ∀ (b0 b1 b2 b3 b4 b5 b6 b7 : Bool) (v : Fin 8), bits .or .u32 (maskB (lst8 b0 b1 b2 b3 b4 b5 b6 b7) 8) ((2 : Int) ^ v.val % 4294967296) = maskB (updV (lst8 b0 b1 b2 b3 b4 b5 b6 b7) v.val true) 8 := by decide +kernel
theorem and_key : ∀ (b0 b1 b2 b3 b4 b5 b6 b7 : Bool) (v : Fin 8), bits .andNot .u32 (maskB (lst8 b0 b1 b2 b3 b4 b5 b6 b7) 8) ((2 : Int) ^ v.val % 4294967296) = maskB (updV (lst8 b0 b1 b2 b3 b4 b5 b6 b7) v.val false) 8 := by decide +kernel
theorem lst8_of (p : Nat → Bool) : ∀ i, i < 8 → p i = lst8 (p 0) (p 1) (p 2) (p 3) (p 4) (p 5) (p 6) (p 7) i := by
  intro i hi
  have : i = 0 ∨ i = 1 ∨ i = 2 ∨ i = 3 ∨ i = 4 ∨ i = 5 ∨ i = 6 ∨ i = 7 := by omega
  rcases this with rfl | rfl | rfl | rfl | rfl | rfl | rfl | rfl <;> rfl
theorem or_mask (p : Nat → Bool) {v : Nat} (hv : v < 8) : bits .or .u32 (maskB p 8) ((2 : Int) ^ v % 4294967296) = maskB (updV p v true) 8 := by
  rw [maskB_congr (lst8_of p), or_key _ _ _ _ _ _ _ _ ⟨v, hv⟩]
  refine maskB_congr (fun i hi => ?_)
  unfold updV
  rw [← lst8_of p i hi]
theorem andNot_mask (p : Nat → Bool) {v : Nat} (hv : v < 8) : bits .andNot .u32 (maskB p 8) ((2 : Int) ^ v % 4294967296) = maskB (updV p v false) 8 := by
  rw [maskB_congr (lst8_of p), and_key _ _ _ _ _ _ _ _ ⟨v, hv⟩]
  refine maskB_congr (fun i hi => ?_)
  unfold updV
  rw [← lst8_of p i hi]
def full (F : Nat → List Int) (i : Nat) : Bool := decide (0 < (F i).length)
def maskF (F : Nat → List Int) : Int := maskB (full F) 8
theorem mask_upd {F : Nat → List Int} {v : Nat} {xs : List Int} : maskF (updV F v xs) = maskB (updV (full F) v (decide (0 < xs.length))) 8 := by
  refine maskB_congr (fun i _ => ?_)
  unfold full updV
  split <;> rfl
theorem mask_same {F : Nat → List Int} {v : Nat} {xs : List Int} (h : full F v = decide (0 < xs.length)) : maskF (updV F v xs) = maskF F := by
  rw [mask_upd]
  refine maskB_congr (fun i _ => ?_)
  unfold updV
  split
  · rename_i e; rw [e, h]
  · rfl
/-- A Prio at g. -/
def PSt (w : World) (B g : Nat) (vs : Nat → Value) (F : Nat → List Int) : Prop := Arr w B g 123 [.int .u32 (maskF F)] 8 [] vs F
def PGo (w : World) (B g : Nat) (vs : Nat → Value) (F : Nat → List Int) (w' : World) : Prop := ArrGo w B g 123 8 vs [.int .u32 (maskF F)] [] F w'
theorem PSt.rd {w : World} {B g : Nat} {vs : Nat → Value} {F : Nat → List Int} (h : PSt w B g vs F) : ArrR w g 1 F := Arr.reads h
theorem PSt.bits {w : World} {B g : Nat} {vs : Nat → Value} {F : Nat → List Int} (h : PSt w B g vs F) : w.cell? ⟨g, 0, none⟩ = some (.int .u32 (maskF F)) := h.blk.cell 0
set_option maxRecDepth 100000 in
theorem put_bad (g : Nat) (t v : Int) (w : World) (h : ¬ (1 ≤ t ∧ t ≤ 16 ∧ 0 ≤ v ∧ v < 8)) :
    Calls Try.prog 19 #[.pointer (some ⟨g, 0, none⟩), .int .i64 t, .int .i64 v] w fun e w' => e = .returned (.int .i64 1) ∧ w = w' := by
  by_cases h1 : t < 1
  · have d1 : decide (t < 1) = true := by simpa using h1
    clear h h1
    go_enter Try.func19, Try.ntmps19
    go_wp2
    go_ret
    exact ⟨rfl, rfl⟩
  have d1 : decide (t < 1) = false := by simpa using h1
  by_cases h2 : 16 < t
  · have d2 : decide (16 < t) = true := by simpa using h2
    clear h h1 h2
    go_enter Try.func19, Try.ntmps19
    go_wp2
    go_ret
    exact ⟨rfl, rfl⟩
  have d2 : decide (16 < t) = false := by simpa using h2
  by_cases h3 : v < 0
  · have d3 : decide (v < 0) = true := by simpa using h3
    clear h h1 h2 h3
    go_enter Try.func19, Try.ntmps19
    go_wp2
    go_ret
    exact ⟨rfl, rfl⟩
  have d3 : decide (v < 0) = false := by simpa using h3
  have d4 : decide (8 ≤ v) = true := by simp; omega
  clear h h1 h2 h3
  go_enter Try.func19, Try.ntmps19
  go_wp2
  go_ret
  exact ⟨rfl, rfl⟩
set_option maxRecDepth 100000 in
theorem put_there (g : Nat) (t v : Int) (F : Nat → List Int) (w : World) (hR : ArrR w g 1 F) (h : 1 ≤ t ∧ t ≤ 16 ∧ 0 ≤ v ∧ v < 8) (hm : 0 ≤ ofI F t) :
    Calls Try.prog 19 #[.pointer (some ⟨g, 0, none⟩), .int .i64 t, .int .i64 v] w fun e w' => e = .returned (.int .i64 5) ∧ Below w.heap.size w w' := by
  have d1 : decide (t < 1) = false := by simp; omega
  have d2 : decide (16 < t) = false := by simp; omega
  have d3 : decide (v < 0) = false := by simp; omega
  have d4 : decide (8 ≤ v) = false := by simp; omega
  have d5 : decide (0 ≤ ofI F t) = true := by simpa using hm
  have HA := Lib.hid (at83 g t F w hR)
  generalize ofI F t = y at *
  clear h hR hm
  go_enter Try.func19, Try.ntmps19
  go_wp2_with fail
  refine HA.out.mono ?_
  rintro e w' ⟨rfl, hb⟩
  go_wp2
  go_ret
  exact ⟨rfl, hb⟩
theorem infoInt9 : (Try.prog.info? 3).map (fun i => (i.zero, i.size, i.bytes)) = some (some (.int .i64 0), 1, 8) := by kernel_rfl
def PutPost (w : World) (B g : Nat) (vs : Nat → Value) (F : Nat → List Int) (e : Ending) (w' : World) : Prop := e = .returned (.int .i64 0) ∧ PGo w B g vs F w'
theorem PGo.of_grow {w w3 w' : World} {B g : Nat} {vs : Nat → Value} {F : Nat → List Int} (hb : Below w.heap.size w w3) (h : PGo w3 B g vs F w') : PGo w B g vs F w' :=
  ArrGo.trans ((Fr.of_grow hb).mono (fun _ _ h => h.elim)) (fun k hk => .inl hk) h
theorem pr_put {w w3 w1 : World} {B g v ol c1 c : Nat} {A A1 : Option Addr} {t mk' : Int} {vs : Nat → Value} {F : Nat → List Int} (h : PSt w B g vs F) (hb : Below w.heap.size w w3) (h3 : PSt w3 B g vs F) (hv : v < 8)
    (hr : Row w1 B 3 1 (.slice A1 (ol + 1) c1) (ol + 1) ((F v).map (Value.int .i64) ++ [.int .i64 t])) (hf : Fr (fun k => (Value.slice A ol c).ownBlock = some k) w3 w1)
    (ho : (Value.slice A1 (ol + 1) c1).ownBlock = (Value.slice A ol c).ownBlock ∨ (Value.slice A1 (ol + 1) c1).ownBlock = some (w3.drew.alloc (.cells #[.int .i64 t] 3)).heap.size) (hvv : vs v = .slice A ol c) (hol : (F v).length = ol) (hmk : maskF F = mk') :
    PGo w B g vs (updV F v (F v ++ [t])) ((w1.setCell ⟨g, 1 + v, none⟩ (.slice A1 (ol + 1) c1)).setCell ⟨g, 0, none⟩ (.int .u32 (bits .or .u32 mk' (2 ^ v % 4294967296)))).drew := by
  have ho' : ∀ k, (Value.slice A1 (ol + 1) c1).ownBlock = some k → (vs v).ownBlock = some k ∨ w3.heap.size ≤ k := fun k hk => by
    rcases own_cases ho hk with h1 | h1
    · exact .inl (by rw [hvv]; exact h1)
    · simp at h1; exact .inr (by omega)
  have hr' : Row w1 B 3 1 (.slice A1 (ol + 1) c1) (F v ++ [t]).length ((F v ++ [t]).map (Value.int .i64)) := by
    have e : (F v ++ [t]).length = ol + 1 := by simp [hol]
    rw [e]; simpa using hr
  refine PGo.of_grow hb ?_
  obtain ⟨vs', a1, a2, a3⟩ := ArrGo.put h3 hv (by rw [hvv]; exact hf) hr' ho'
  have e0 : bits .or .u32 mk' (2 ^ v % 4294967296) = maskF (updV F v (F v ++ [t])) := by
    rw [mask_upd, ← hmk]
    have : decide (0 < (F v ++ [t]).length) = true := by simp
    rw [this]
    exact or_mask (full F) hv
  rw [e0]
  refine ⟨vs', ?_, ?_, a3⟩
  · have := a1.set_hd (i := 0) (by simp) (.int .u32 (maskF (updV F v (F v ++ [t]))))
    exact this.keep ((Fr.refl Nil _).drew) (fun _ _ h => h)
  · exact (a2.setCell (p := ⟨g, 0, none⟩) (fun _ => .inl rfl) _).drew
set_option maxHeartbeats 1000000 in
set_option maxRecDepth 100000 in
theorem put_any (g v : Nat) (t : Int) (vs : Nat → Value) (F : Nat → List Int) (w : World) (B : Nat) (h : PSt w B g vs F) (hB : B ≤ w.heap.size) (ht : 1 ≤ t ∧ t ≤ 16) (hv : v < 8) (hm : ofI F t = -1) (hl : (F v).length ≤ 1000) :
    Calls Try.prog 19 #[.pointer (some ⟨g, 0, none⟩), .int .i64 t, .int .i64 v] w (PutPost w B g vs (updV F v (F v ++ [t]))) := by
  obtain ⟨i0, hi, hz0, hz1, hz2⟩ := info_parts infoInt9
  have d1 : decide (t < 1) = false := by simp; omega
  have d2 : decide (16 < t) = false := by simp; omega
  have d3 : decide ((v : Int) < 0) = false := by simp
  have d4 : decide (8 ≤ (v : Int)) = false := by simp; omega
  have HA := Lib.hid (at83 g t F w h.rd)
  rw [hm] at HA
  clear hm
  go_enter Try.func19, Try.ntmps19
  go_wp2_with fail
  refine HA.out.mono ?_
  rintro e w3 ⟨rfl, hb3⟩
  have h3 : PSt w3 B g vs F := Arr.grow h hb3
  have hc0 := h3.bits
  have hcv := Arr.cell h3 hv
  obtain ⟨A, c, hvv, hc1, hc2⟩ := (h3.row v hv).shape
  have hrow := h3.row v hv
  rw [hvv] at hcv hrow
  rw [show ([Value.int .u32 (maskF F)].length) = 1 from rfl] at hcv
  have hfz := h3.blk.free
  have hlt := h3.blk.lt
  have hBw : B ≤ w3.heap.size := Nat.le_trans hB hb3.size
  have HB3 := Lib.hid hb3
  have hv8 : (v : Int) < 8 := by omega
  have hv0 : (0 : Int) ≤ v := by omega
  clear hb3
  generalize hol : (F v).length = ol at *
  generalize hmk : maskF F = mk at *
  go_wp2
  go_region_law (refine step_append_row rfl (.tmp 32) (.tmp 34) 45 rfl B 3 i0 (.int .i64 0) 1 8 Try.underlying45 hi hz0 hz1 hz2 rfl (by decide) (.slice A ol c) ol ((F v).map (Value.int .i64)) (by simp [Act.eval, Act.put]) (hrow.drew.alloc _) (w3.heap.size + 1) (some ⟨w3.heap.size, 0, none⟩) 1 1 [.int .i64 t] (by simp [Act.eval, Act.put]) (reads_one w3.drew (.int .i64 t) 3) (by simp [Value.oneCell']) (by unfold maxLen; omega) (by omega) (by simp; omega) ?_; intro A1 c1 w1 hr1 hg1 ho1; have hf1 := pr_app_fr hg1; obtain ⟨ka, kb, kc, kd⟩ := Arr.app h3 hv (by rw [hvv]; exact hf1); have k0 : w1.cell? ⟨g, 0, none⟩ = some (.int .u32 mk) := (kd 0).trans (by rw [hmk]; rfl); have ka1 : w1.cell? ⟨g, 1 + v, none⟩ = some (.slice A ol c) := ka.trans (congrArg some hvv); clear kd ka)
  all_goals
    go_wp2
    go_region
    all_goals
      go_wp2
      go_ret
      exact ⟨rfl, pr_put h HB3.out h3 hv hr1 hf1 ho1 hvv hol hmk⟩
end Go.Proofs.Ytenhcpobncmedaa
