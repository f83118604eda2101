/- Programs put together: what they are (plain). -/
import Derived.Test.YtmndmdipjfblhaaBlF
namespace Go.Proofs.Ytmndmdipjfblhaa
open Go.RowKit
set_option maxHeartbeats 400000
set_option linter.unusedVariables false
set_option linter.unusedSimpArgs false
/-- A page of a program. -/
structure Pg where
  p : Int
  r : Int
  A : Option Addr
  n : Nat
  c : Nat
  xs : List Int
def Pg.cells (g : Pg) : List Value := [.int .i64 g.p, .int .i64 g.r, .slice g.A g.n g.c]
def Pg.zero : Pg := ⟨0, 0, none, 0, 0, []⟩
def Pg.own (w : World) (B : Nat) (g : Pg) : Prop := Row w B 5 1 (.slice g.A g.n g.c) g.n (g.xs.map (Value.int .u8)) ∧ g.n ≤ 16 ∧ Byt g.xs
theorem Pg.own.fr {w w' : World} {S : Nat → Prop} {B : Nat} {g : Pg} (h : g.own w B) (hf : Fr S w w') (hn : ∀ k, (Value.slice g.A g.n g.c).ownBlock = some k → ¬ S k) : g.own w' B := ⟨h.1.fr hf hn, h.2⟩
def pgData (bs : List Int) (p : Nat) : List Int := (bs.drop (16 * (p + 1))).take 16
def pgRight (e : Nat) (p : Nat) : Int := if e ≤ 16 * (p + 1) then 3 else 5
def PgsOk (bs : List Int) (e m : Nat) (gs : List Pg) : Prop := gs.length = m ∧ ∀ (i : Nat) (g : Pg), gs[i]? = some g → g.p = (i : Int) + 1 ∧ g.r = pgRight e i ∧ g.xs = pgData bs i
theorem PgsOk.nil (bs : List Int) (e : Nat) : PgsOk bs e 0 [] := ⟨rfl, fun i g h => by simp at h⟩
theorem PgsOk.snoc {bs : List Int} {e m : Nat} {gs : List Pg} {g : Pg} (h : PgsOk bs e m gs) (h1 : g.p = (m : Int) + 1) (h2 : g.r = pgRight e m) (h3 : g.xs = pgData bs m) : PgsOk bs e (m + 1) (gs ++ [g]) := by
  refine ⟨by rw [List.length_append, h.1]; rfl, fun i x hx => ?_⟩
  by_cases hi : i < gs.length
  · rw [List.getElem?_append_left hi] at hx; exact h.2 i x hx
  · rw [List.getElem?_append_right (by omega)] at hx
    have : i - gs.length = 0 := by
      rcases Nat.eq_zero_or_pos (i - gs.length) with h0 | h0
      · exact h0
      · rw [List.getElem?_eq_none (by simp; omega)] at hx; cases hx
    rw [this] at hx
    simp at hx
    subst hx
    have : i = m := by have := h.1; omega
    subst this
    exact ⟨h1, h2, h3⟩
/-- The pages of a program under way: the row of pages, and each page's bytes. -/
structure PgS (w : World) (B : Nat) (v : Value) (gs : List Pg) : Prop where
  row : Row w B 69 3 v gs.length (gs.flatMap Pg.cells)
  own : ∀ g ∈ gs, g.own w B
theorem PgS.nil (w : World) (B : Nat) : PgS w B (.slice none 0 0) [] := ⟨Row.nil _ _ _ _, fun g hg => by simp at hg⟩
theorem PgS.grow {w w' : World} {B : Nat} {v : Value} {gs : List Pg} (h : PgS w B v gs) (hb : Below w.heap.size w w') : PgS w' B v gs :=
  ⟨h.row.grow hb, fun g hg => (h.own g hg).fr (Fr.of_grow hb) (fun _ _ h => h)⟩
theorem PgS.base {w : World} {B B' : Nat} {v : Value} {gs : List Pg} (h : PgS w B v gs) (hb : B' ≤ B) : PgS w B' v gs := ⟨h.row.base_le hb, fun g hg => ⟨(h.own g hg).1.base_le hb, (h.own g hg).2⟩⟩
/-- Blocks of different types are different. -/
theorem bl_row_row {w : World} {base base' e e' size size' n n' : Nat} {v v' : Value} {xs xs' : List Value} (h : Row w base e size v n xs) (h' : Row w base' e' size' v' n' xs') (ht : e ≠ e') : ∀ k, v.ownBlock = some k → v'.ownBlock ≠ some k := by
  intro k hk hk'
  rcases h.2 with ⟨rfl, _⟩ | ⟨g, o, cap, cur, rfl, _, hg, _⟩
  · simp [Value.ownBlock] at hk
  · rcases h'.2 with ⟨rfl, _⟩ | ⟨g', o', cap', cur', rfl, _, hg', _⟩
    · simp [Value.ownBlock] at hk'
    · simp [Value.ownBlock] at hk hk'
      subst hk; subst hk'
      rw [hg] at hg'
      injection hg' with hg'
      injection hg' with _ hg'
      exact ht hg'
theorem PgS.set {w : World} {B : Nat} {v : Value} {gs : List Pg} {g : Nat} {cs : Array Value} {t : TypeId} (h : PgS w B v gs) (hb : Blk w g cs t) (h1 : 69 ≠ t) (h2 : 5 ≠ t) (j : Nat) (u : Value) : PgS (w.setCell ⟨g, j, none⟩ u) B v gs :=
  ⟨h.row.setCell (fun e => bp_row_blk h.row hb h1 e) u, fun x hx => ⟨(h.own x hx).1.setCell (fun e => bp_row_blk (h.own x hx).1 hb h2 e) u, (h.own x hx).2⟩⟩
/-- Behind an append of a page. -/
theorem PgS.app {w w' : World} {B : Nat} {v v' : Value} {gs : List Pg} {g : Pg} (h : PgS w B v gs) (hr : Row w' B 69 3 v' (gs.length + 1) (gs.flatMap Pg.cells ++ g.cells)) (hf : Fr (fun k => v.ownBlock = some k) w w') (hg : g.own w B) : PgS w' B v' (gs ++ [g]) := by
  refine ⟨by rw [List.length_append]; simpa using hr, fun x hx => ?_⟩
  rcases List.mem_append.1 hx with hx | hx
  · exact (h.own x hx).fr hf (fun k hk e => bl_row_row (h.own x hx).1 h.row (by decide) k hk e)
  · simp at hx
    subst hx
    exact hg.fr hf (fun k hk e => bl_row_row hg.1 h.row (by decide) k hk e)
def startB : ByteArray := { data := #[115, 116, 97, 114, 116] }
def startK : List UInt8 := startB.data.toList
def entOf (pl : List En) : Int := (adr pl startK).getD 0
def entR (e : Nat) (pl : List En) : Int := (((pl.filter fun x => x.key == startK && decide (16 ≤ x.ad ∧ x.ad < (e : Int))).getLast?).map En.ad).getD 0
theorem entOf_snoc {pl : List En} {i : Nat} {x : En} (h : pl[i]? = some x) : entOf (pl.take (i + 1)) = if startK = x.key then x.ad else entOf (pl.take i) := by
  unfold entOf; rw [adr_snoc h]; split <;> rfl
theorem entR_snoc {pl : List En} {i : Nat} {x : En} (e : Nat) (h : pl[i]? = some x) : entR e (pl.take (i + 1)) = if startK = x.key ∧ 16 ≤ x.ad ∧ x.ad < (e : Int) then x.ad else entR e (pl.take i) := by
  unfold entR
  rw [take_snoc_en h, List.filter_append]
  by_cases hk : startK = x.key ∧ 16 ≤ x.ad ∧ x.ad < (e : Int)
  · rw [if_pos hk]
    have : List.filter (fun y => y.key == startK && decide (16 ≤ y.ad ∧ y.ad < (e : Int))) [x] = [x] := by simp [hk.1, hk.2.1, hk.2.2]
    rw [this]; simp
  · rw [if_neg hk]
    have : List.filter (fun y => y.key == startK && decide (16 ≤ y.ad ∧ y.ad < (e : Int))) [x] = [] := by
      simp
      intro h1 h2
      rw [← Int.not_lt]
      exact fun h3 => hk ⟨h1.symm, h2, h3⟩
    rw [this]; simp
theorem once {pl : List En} (h : (keysOf pl).Nodup) (k : List UInt8) : (pl.filter fun x => x.key == k).length ≤ 1 := by
  have h1 : ((pl.filter fun x => x.key == k).map En.key).Nodup := List.Sublist.nodup (List.Sublist.map _ List.filter_sublist) h
  have h2 : ∀ y ∈ (pl.filter fun x => x.key == k), y.key = k := fun y hy => by simpa using (List.mem_filter.1 hy).2
  generalize (pl.filter fun x => x.key == k) = l at *
  match l with
  | [] => simp
  | [_] => simp
  | a :: b :: l =>
    have e1 := h2 a (by simp)
    have e2 := h2 b (by simp)
    simp [e1, e2] at h1
theorem entR_eq {pl : List En} (h : (keysOf pl).Nodup) (e : Nat) : entR e pl = if 16 ≤ entOf pl ∧ entOf pl < e then entOf pl else 0 := by
  have hl := once h startK
  unfold entR entOf adr
  have e1 : (pl.filter fun x => x.key == startK && decide (16 ≤ x.ad ∧ x.ad < (e : Int))) = (pl.filter fun x => x.key == startK).filter (fun x => decide (16 ≤ x.ad ∧ x.ad < (e : Int))) := by
    rw [List.filter_filter]
    congr 1
    funext x
    rw [Bool.and_comm]
  rw [e1]
  generalize (pl.filter fun x => x.key == startK) = l at *
  match l, hl with
  | [], _ => simp
  | [a], _ =>
    by_cases hc : 16 ≤ a.ad ∧ a.ad < e
    · simp [hc]
    · simp [hc]
  | a :: b :: l, hl => simp at hl
theorem best_key (pre : List En) (x : En) : (bestOf pre x).key = x.key := by
  unfold bestOf
  cases hs : (strongs pre x.key).getLast? with
  | none => rfl
  | some z =>
    have := List.mem_of_getLast? hs
    unfold strongs at this
    have := (List.mem_filter.1 this).2
    simp at this
    exact this.1
theorem out_nodup (pre : List En) : (keysOf (outOf pre)).Nodup := by
  have : keysOf (outOf pre) = keysOf (uniq pre) := by
    unfold outOf keysOf
    rw [List.map_map]
    exact List.map_congr_left (fun x _ => best_key pre x)
  rw [this]
  exact uniq_keys pre []
theorem pl_nodup (os : List Ob) : (keysOf (plL os)).Nodup := by
  unfold plL
  split
  · exact out_nodup _
  · exact List.nodup_nil
/-- Words of the parts ahead of part i, in bytes. -/
def sW (os : List Ob) (i : Nat) : Nat := 4 * ((os.take i).map Ob.n0).sum
theorem cN_sW (os : List Ob) (i : Nat) : cN os i = 16 + sW os i := rfl
theorem sW_step {os : List Ob} {k : Nat} {x : Ob} (h : os[k]? = some x) : sW os (k + 1) = sW os k + 4 * x.n0 := by
  have := cN_step h
  rw [cN_sW, cN_sW] at this; omega
def endOf (fs : List Fo) : Nat := cN (osOf fs) (osOf fs).length
def entF (fs : List Fo) : Int := entOf (plL (osOf fs))
def lkErr (fs : List Fo) : Int := if byErr fs = 0 then (if 16 ≤ entF fs ∧ entF fs < endOf fs then 0 else 4) else byErr fs
def lkEnt (fs : List Fo) : Int := if lkErr fs = 0 then entF fs else 0
def lkM (fs : List Fo) : Nat := if lkErr fs = 0 then ((byL fs).length - 1) / 16 else 0
def ImPost (w : World) (fs : List Fo) (e : Ending) (w' : World) : Prop :=
  ∃ A n c gs, e = .returned (.tuple #[.agg #[.int .u32 (lkEnt fs), .slice A n c], .int .i64 (lkErr fs)]) ∧ n = gs.length ∧ PgS w' w.heap.size (.slice A n c) gs ∧ PgsOk (byL fs) (endOf fs) (lkM fs) gs ∧ Below w.heap.size w w'
theorem ImPost.bad {w w' : World} {fs : List Fo} {E : Int} (he : lkErr fs = E) (hE : E ≠ 0) (hb : Below w.heap.size w w') : ImPost w fs (.returned (.tuple #[.agg #[.int .u32 0, .slice none 0 0], .int .i64 E])) w' := by
  refine ⟨none, 0, 0, [], ?_, rfl, PgS.nil _ _, ?_, hb⟩
  · unfold lkEnt; rw [he, if_neg hE]
  · unfold lkM; rw [he, if_neg hE]; exact PgsOk.nil _ _
theorem ImPost.good {w w' : World} {fs : List Fo} {A : Option Addr} {c n : Nat} {gs : List Pg} (he : lkErr fs = 0) (hn : n = gs.length) (hs : PgS w' w.heap.size (.slice A n c) gs) (hp : PgsOk (byL fs) (endOf fs) (((byL fs).length - 1) / 16) gs) (hb : Below w.heap.size w w') :
    ImPost w fs (.returned (.tuple #[.agg #[.int .u32 (entF fs), .slice A n c], .int .i64 0])) w' := by
  refine ⟨A, n, c, gs, ?_, hn, hs, ?_, hb⟩
  · unfold lkEnt; rw [he, if_pos rfl]
  · unfold lkM; rw [he, if_pos rfl]; exact hp
theorem by_zero {fs : List Fo} (h : byErr fs = 0) : plErr (osOf fs) = 0 ∧ (byL fs).length = spTot (osOf fs) := by
  refine ⟨?_, by unfold byL; rw [if_pos h, outTo_len]⟩
  unfold byErr at h
  split at h
  · assumption
  · rename_i h'; exact absurd h h'
theorem right_eq (e p : Nat) (a : Nat) (ha : a = 16 * (p + 1)) : (if upN e 16 ≤ a then (3 : Int) else 5) = pgRight e p := by
  have h1 := up_ge e 16 (by omega)
  unfold pgRight
  subst ha
  have h2 : upN e 16 ≤ 16 * (p + 1) ↔ e ≤ 16 * (p + 1) := by
    refine ⟨fun h => by omega, fun h => ?_⟩
    unfold upN
    have : (e + 16 - 1) / 16 ≤ p + 1 := by omega
    have := Nat.mul_le_mul_right 16 this
    omega
  by_cases h : e ≤ 16 * (p + 1)
  · rw [if_pos h, if_pos (h2.2 h)]
  · rw [if_neg h, if_neg (fun h' => h (h2.1 h'))]
theorem end_le {fs : List Fo} (h : plErr (osOf fs) = 0) : endOf fs ≤ 7000 := by
  obtain ⟨hpe, _⟩ := sp_zero (pl_zero h).1
  obtain ⟨hl12, hfit⟩ := parts_zero hpe
  have := cN_le hfit (osOf fs).length (Nat.le_refl _)
  unfold endOf; omega
end Go.Proofs.Ytmndmdipjfblhaa
