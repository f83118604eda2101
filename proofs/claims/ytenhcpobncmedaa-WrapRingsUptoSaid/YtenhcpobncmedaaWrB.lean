/- A ring of records (wrap.Ring): what is held of one, and contracts of New, Span, Get and From. -/
import Derived.Test.YtenhcpobncmedaaWrA
import Derived.Deep.RegionLaw
namespace Go.Proofs.Ytenhcpobncmedaa
open Go.RowKit
set_option maxHeartbeats 400000
set_option linter.unusedVariables false
set_option linter.unusedSimpArgs false
/-- Blocks of different types are different. -/
theorem wr_row_blk {w : World} {base e size n g : Nat} {v : Value} {xs : List Value} {cs : Array Value} {t : TypeId} (h : Row w base e size v n xs) (hb : Blk w g cs t) (ht : e ≠ t) : v.ownBlock ≠ some g := by
  rcases h.2 with ⟨rfl, _⟩ | ⟨g', o, cap, cur, rfl, _, hg, _⟩
  · simp [Value.ownBlock]
  · intro he
    have : g' = g := by simpa [Value.ownBlock] using he
    subst this
    unfold Blk at hb
    rw [hb] at hg
    injection hg with hg
    injection hg with _ hg
    exact ht hg.symm
theorem wr_row_row {w : World} {base base' e e' size size' n n' : Nat} {v v' : Value} {xs xs' : List Value} (h : Row w base e size v n xs) (h' : Row w base' e' size' v' n' xs') (ht : e ≠ e') : ∀ k, v.ownBlock = some k → v'.ownBlock ≠ some k := by
  intro k hk hk'
  rcases h.2 with ⟨rfl, _⟩ | ⟨g, o, cap, cur, rfl, _, hg, _⟩
  · simp [Value.ownBlock] at hk
  · rcases h'.2 with ⟨rfl, _⟩ | ⟨g', o', cap', cur', rfl, _, hg', _⟩
    · simp [Value.ownBlock] at hk'
    · simp [Value.ownBlock] at hk hk'
      subst hk
      subst hk'
      rw [hg] at hg'
      injection hg' with hg'
      injection hg' with _ hg'
      exact ht hg'
def Rb.own (w : World) (B : Nat) (r : Rb) : Prop := Row w B 5 1 r.val r.n (r.xs.map (Value.int .u8)) ∧ Byt r.xs
theorem Rb.own.fine {w : World} {B : Nat} {r : Rb} (h : r.own w B) : r.fine w w.heap.size := by
  refine ⟨⟨Row.reads h.1, h.2⟩, ?_⟩
  obtain ⟨A, c, e, h1, h2⟩ := h.1.shape
  unfold maxLen at h2
  omega
/-- A ring at g. -/
structure RgSt (w : World) (B g : Nat) (vl : Value) (size : Int) (next : Int) (L : List Rb) : Prop where
  blk : Blk w g #[.int .i64 size, .int .u32 next, vl] 119
  row : Row w B 30 1 vl L.length (L.map Rb.val)
  ent : ∀ r ∈ L, r.own w B
  low : B ≤ g
def RgF (g : Nat) (vl : Value) (k : Nat) : Prop := k = g ∨ vl.ownBlock = some k
def RgGo (w : World) (B g : Nat) (vl : Value) (size next : Int) (L : List Rb) (w' : World) : Prop :=
  ∃ vl', RgSt w' B g vl' size next L ∧ Fr (RgF g vl) w w' ∧ ∀ k, RgF g vl' k → RgF g vl k ∨ w.heap.size ≤ k
namespace RgSt
variable {w w' : World} {B g : Nat} {vl : Value} {size next : Int} {L : List Rb}
theorem lt (h : RgSt w B g vl size next L) : ∀ k, RgF g vl k → B ≤ k ∧ k < w.heap.size := fun k hk => by
  rcases hk with rfl | hk
  · exact ⟨h.low, h.blk.lt⟩
  · exact h.row.lt k hk
theorem grow (h : RgSt w B g vl size next L) (hb : Below w.heap.size w w') : RgSt w' B g vl size next L :=
  ⟨h.blk.fr (Fr.of_grow hb) (fun h => h), h.row.grow hb, fun r hr => ⟨(h.ent r hr).1.grow hb, (h.ent r hr).2⟩, h.low⟩
theorem keep {S : Nat → Prop} (h : RgSt w B g vl size next L) (hf : Fr S w w') (hn : ∀ k, RgF g vl k → ¬ S k) (he : ∀ r ∈ L, ∀ k, r.val.ownBlock = some k → ¬ S k) : RgSt w' B g vl size next L :=
  ⟨h.blk.fr hf (hn g (.inl rfl)), h.row.fr hf (fun k hk => hn k (.inr hk)), fun r hr => ⟨(h.ent r hr).1.fr hf (he r hr), (h.ent r hr).2⟩, h.low⟩
theorem rr (h : RgSt w B g vl size next L) : ∃ A c, vl = .slice A L.length c ∧ RRb w w.heap.size A L.length L ∧ L.length ≤ c ∧ c ≤ 9223372036854775807 := by
  obtain ⟨A, c, hv, h1, h2⟩ := h.row.shape
  have hr := h.row
  rw [hv] at hr
  exact ⟨A, c, hv, ⟨hr.reads, fun r hr => (h.ent r hr).fine⟩, h1, h2⟩
end RgSt
set_option maxRecDepth 100000 in
theorem wnew_bad (size first : Int) (w : World) (h : ¬ (1 ≤ size ∧ size ≤ 64)) : Calls Try.prog 11 #[.int .i64 size, .int .u32 first] w fun e w' => e = .returned (.tuple #[.pointer none, .int .i64 1]) ∧ w = w' := by
  by_cases h1 : size < 1
  · have d1 : decide (size < 1) = true := by simpa using h1
    clear h h1
    go_enter Try.func11, Try.ntmps11
    go_wp2
    go_ret2
    exact ⟨rfl, rfl⟩
  have d1 : decide (size < 1) = false := by simpa using h1
  have d2 : decide (64 < size) = true := by simp; omega
  clear h h1
  go_enter Try.func11, Try.ntmps11
  go_wp2
  go_ret2
  exact ⟨rfl, rfl⟩
set_option maxRecDepth 100000 in
theorem wnew (size first : Int) (w : World) (h : 1 ≤ size ∧ size ≤ 64) : Calls Try.prog 11 #[.int .i64 size, .int .u32 first] w fun e w' => e = .returned (.tuple #[.pointer (some ⟨w.heap.size, 0, none⟩), .int .i64 0]) ∧ w' = w.alloc (.cells #[.int .i64 size, .int .u32 first, .slice none 0 0] 119) := by
  have d1 : decide (size < 1) = false := by simp; omega
  have d2 : decide (64 < size) = false := by simp; omega
  clear h
  go_enter Try.func11, Try.ntmps11
  go_wp2
  go_ret2
  exact ⟨rfl, rfl⟩
theorem rg_new (w : World) (B : Nat) (hB : B ≤ w.heap.size) (size first : Int) : RgSt (w.alloc (.cells #[.int .i64 size, .int .u32 first, .slice none 0 0] 119)) B w.heap.size (.slice none 0 0) size first [] :=
  ⟨Blk.new _ _ _, Row.nil _ _ _ _, fun r hr => by simp at hr, hB⟩
/-- The number of the first record. -/
def lowI (next : Int) (n : Nat) : Int := (next - n) % 4294967296
theorem lowI_u32 (next : Int) (n : Nat) : U32 (lowI next n) := by unfold lowI U32; omega
set_option maxRecDepth 100000 in
theorem span13 (g : Nat) (vl : Value) (size next : Int) (L : List Rb) (w : World) (B : Nat) (h : RgSt w B g vl size next L) (hn : U32 next) (hl : L.length ≤ 64) :
    Calls Try.prog 13 #[.pointer (some ⟨g, 0, none⟩)] w fun e w' => e = .returned (.tuple #[.int .u32 (lowI next L.length), .int .u32 next]) ∧ ∃ m, w' = w.drewN m := by
  obtain ⟨A, c, hv, _, _, _⟩ := h.rr
  have hc := h.blk.cell
  have hlt := h.blk.lt
  rw [hv] at hc
  obtain ⟨n0, n1⟩ := hn
  clear h hv
  generalize L.length = l at *
  have he : ((next - l) % 4294967296) = lowI next l := rfl
  go_enter Try.func13, Try.ntmps13
  go_wp2
  go_quiet (fail)
  go_wp2
  go_ret2
  exact ⟨by rw [← he]; rfl, _, rfl⟩
theorem RRb.drewN {w : World} {B n : Nat} {A : Option Addr} {rs : List Rb} (h : RRb w B A n rs) (m : Nat) : RRb (w.drewN m) B A n rs := h
set_option maxRecDepth 100000 in
theorem get_none (g : Nat) (vl : Value) (size next n : Int) (L : List Rb) (w : World) (B : Nat) (h : RgSt w B g vl size next L) (hn : U32 next) (hn' : U32 n) (hl : L.length ≤ 64) (hi : ¬ (0 ≤ farI (lowI next L.length) n ∧ farI (lowI next L.length) n < L.length)) :
    Calls Try.prog 14 #[.pointer (some ⟨g, 0, none⟩), .int .u32 n] w fun e w' => e = .returned (.tuple #[.slice none 0 0, .int .i64 4]) ∧ Below w.heap.size w w' := by
  obtain ⟨A, c, hv, _, _, _⟩ := h.rr
  have HS := Lib.hid (span13 g vl size next L w B h hn hl)
  have HF := Lib.hid (fun m => far82 (lowI next L.length) n (w.drewN m) (lowI_u32 _ _) hn')
  have hc := h.blk.cell
  have hlt := h.blk.lt
  rw [hv] at hc
  clear h hv
  generalize lowI next L.length = lo at *
  generalize L.length = l at *
  generalize farI lo n = f at *
  by_cases h0 : f < 0
  · have d0 : decide (f < 0) = true := by simpa using h0
    clear h0 hi
    go_enter Try.func14, Try.ntmps14
    go_wp2_with fail
    refine HS.out.mono ?_
    rintro e w' ⟨rfl, m, rfl⟩
    go_wp2_with fail
    refine (HF.out m).mono ?_
    rintro e w' ⟨rfl, rfl⟩
    go_wp2
    go_ret2
    exact ⟨rfl, sl_below_drewN (Below.refl _ _) _⟩
  · have d0 : decide (f < 0) = false := by simpa using h0
    have d1 : decide ((l : Int) ≤ f) = true := by simp; omega
    clear h0 hi
    go_enter Try.func14, Try.ntmps14
    go_wp2_with fail
    refine HS.out.mono ?_
    rintro e w' ⟨rfl, m, rfl⟩
    go_wp2_with fail
    refine (HF.out m).mono ?_
    rintro e w' ⟨rfl, rfl⟩
    go_wp2
    go_ret2
    exact ⟨rfl, sl_below_drewN (Below.refl _ _) _⟩
def GetPost (w : World) (r : Rb) (e : Ending) (w' : World) : Prop := ∃ A' c', e = .returned (.tuple #[.slice A' r.n c', .int .i64 0]) ∧ RB w' w'.heap.size A' r.n r.xs ∧ Below w.heap.size w w'
set_option maxRecDepth 100000 in
theorem get_some (g : Nat) (vl : Value) (size next n : Int) (L : List Rb) (w : World) (B k : Nat) (r : Rb) (h : RgSt w B g vl size next L) (hn : U32 next) (hn' : U32 n) (hl : L.length ≤ 64) (hi : farI (lowI next L.length) n = k) (hk : L[k]? = some r) (hs : r.n ≤ 1000) :
    Calls Try.prog 14 #[.pointer (some ⟨g, 0, none⟩), .int .u32 n] w (GetPost w r) := by
  obtain ⟨A, c, hv, hrr, _, _⟩ := h.rr
  have HS := Lib.hid (span13 g vl size next L w B h hn hl)
  have HF := Lib.hid (fun m => far82 (lowI next L.length) n (w.drewN m) (lowI_u32 _ _) hn')
  rw [hi] at HF
  have hkl : k < L.length := (List.getElem?_eq_some_iff.1 hk).1
  obtain ⟨b, o, r', rfl, hb, hr', hf, hcell⟩ := hrr.at_ hkl
  obtain rfl : r' = r := by rw [hk] at hr'; injection hr' with hr'; exact hr'.symm
  have hc := h.blk.cell
  have hlt := h.blk.lt
  rw [hv] at hc
  have hbyt := hf.1.2
  have HC := Lib.hid (fun m => clone80 r'.A r'.n r'.c r'.xs (w.drewN m) _ hf.1.1 (Nat.le_refl _) (by omega))
  have hkl' : (k : Int) < L.length := by omega
  have d0 : decide ((k : Int) < 0) = false := by simp
  have d1 : decide ((L.length : Int) ≤ k) = false := decide_eq_false (by omega)
  have hk0 : (0 : Int) ≤ k := by omega
  clear h hv hrr hk hr' hf hi
  generalize lowI next L.length = lo at *
  generalize L.length = l at *
  go_enter Try.func14, Try.ntmps14
  go_wp2_with fail
  refine HS.out.mono ?_
  rintro e w' ⟨rfl, m, rfl⟩
  go_wp2_with fail
  refine (HF.out m).mono ?_
  rintro e w' ⟨rfl, rfl⟩
  go_wp2_with fail
  refine (HC.out m).mono ?_
  rintro e w' ⟨A', c', rfl, hr, hb9⟩
  go_wp2
  go_ret2
  exact ⟨A', c', rfl, ⟨Row.reads hr, hbyt⟩, (sl_below_drewN (Below.refl _ _) m).trans hb9⟩
end Go.Proofs.Ytenhcpobncmedaa
