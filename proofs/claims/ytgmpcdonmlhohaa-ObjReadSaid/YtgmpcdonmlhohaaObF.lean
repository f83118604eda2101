/- Contract of obj.From: the object as it is made. -/
import Derived.Test.YtgmpcdonmlhohaaObE
namespace Go.Proofs.Ytgmpcdonmlhohaa
open Go.RowKit
set_option maxHeartbeats 400000
set_option linter.unusedVariables false
set_option linter.unusedSimpArgs false
/-- A mark. -/
structure Mk where
  s : ByteArray
  ad : Int
def Mk.cells (m : Mk) : List Value := [.string m.s, .int .i64 m.ad]
def Mk.zero : Mk := ⟨ByteArray.empty, 0⟩
def Mk.fine (m : Mk) : Prop := m.s.size ≤ 9223372036854775807 ∧ (Lit.int .i64 m.ad).wf = true
def RM (w : World) (B : Nat) (A : Option Addr) (n : Nat) (ms : List Mk) : Prop := RS Mk.cells 2 w B A n ms ∧ ∀ x ∈ ms, x.fine
theorem RM.below' {w w' : World} {B B' n : Nat} {A : Option Addr} {ms : List Mk} (h : RM w B A n ms) (hb : Below B' w w') (hB : B ≤ B') : RM w' B A n ms := ⟨h.1.below' hb hB, h.2⟩
theorem RM.len {w : World} {B n : Nat} {A : Option Addr} {ms : List Mk} (h : RM w B A n ms) : ms.length = n := h.1.2
theorem RM.at_ {w : World} {B n i : Nat} {A : Option Addr} {ms : List Mk} (h : RM w B A n ms) (hi : i < n) :
    ∃ b o, A = some ⟨b, o, none⟩ ∧ b < B ∧ (ms.getD i .zero).fine ∧ w.cell? ⟨b, o + i * 2, none⟩ = some (.string (ms.getD i .zero).s) ∧ w.cell? ⟨b, o + i * 2 + 1, none⟩ = some (.int .i64 (ms.getD i .zero).ad) := by
  obtain ⟨b, o, e, hb, hm, hc⟩ := RS.at_ (cl := Mk.cells) (s := 2) (fun _ => rfl) Mk.zero h.1 hi
  exact ⟨b, o, e, hb, h.2 _ hm, hc 0 _ rfl, hc 1 _ rfl⟩
def nmOf (wh : Int) (m : Mk) : Nm := ⟨m.s, wh, m.ad, false⟩
theorem OwnS.grow {w w' : World} {base e size n : Nat} {v : Value} {xs : List Value} (h : OwnS w base e size n v xs) (hb : Below w.heap.size w w') : OwnS w' base e size n v xs := by
  obtain ⟨A, c, e1, hr⟩ := h
  exact ⟨A, c, e1, hr.grow hb⟩
theorem OwnS.base {w : World} {base base' e size n : Nat} {v : Value} {xs : List Value} (h : OwnS w base e size n v xs) (hb : base' ≤ base) : OwnS w base' e size n v xs := by
  obtain ⟨A, c, e1, hr⟩ := h
  exact ⟨A, c, e1, hr.base_le hb⟩
theorem OwnS.row {w : World} {base e size n : Nat} {v : Value} {xs : List Value} (h : OwnS w base e size n v xs) : Row w base e size v n xs := by
  obtain ⟨A, c, rfl, hr⟩ := h
  exact hr
theorem OwnS.fr {w w' : World} {S : Nat → Prop} {base e size n : Nat} {v : Value} {xs : List Value} (h : OwnS w base e size n v xs) (hf : Fr S w w') (hn : ∀ k, v.ownBlock = some k → ¬ S k) : OwnS w' base e size n v xs := by
  obtain ⟨A, c, rfl, hr⟩ := h
  exact ⟨A, c, rfl, hr.fr hf hn⟩
/-- Blocks of different types are different. -/
theorem row_blk {w : World} {base e size n g : Nat} {v : Value} {xs : List Value} {cs : Array Value} {t : TypeId} (h : Row w base e size v n xs) (hb : Blk w g cs t) (ht : e ≠ t) : v.ownBlock ≠ some g := by
  rcases h.2 with ⟨rfl, _⟩ | ⟨g', o, cap, cur, rfl, _, hg, _⟩
  · simp [Value.ownBlock]
  · intro he
    have : g' = g := by simpa [Value.ownBlock] using he
    subst this
    unfold Blk at hb
    rw [hb] at hg
    injection hg with hg
    injection hg with _ hg
    exact ht hg.symm
theorem row_row {w : World} {base base' e e' size size' n n' : Nat} {v v' : Value} {xs xs' : List Value} (h : Row w base e size v n xs) (h' : Row w base' e' size' v' n' xs') (ht : e ≠ e') : ∀ k, v.ownBlock = some k → v'.ownBlock ≠ some k := by
  intro k hk hk'
  rcases h.2 with ⟨rfl, _⟩ | ⟨g, o, cap, cur, rfl, _, hg, _⟩
  · simp [Value.ownBlock] at hk
  · rcases h'.2 with ⟨rfl, _⟩ | ⟨g', o', cap', cur', rfl, _, hg', _⟩
    · simp [Value.ownBlock] at hk'
    · simp [Value.ownBlock] at hk hk'
      subst hk
      subst hk'
      rw [hg] at hg'
      injection hg' with hg'
      injection hg' with _ hg'
      exact ht hg'
def rowSt (base e size n : Nat) (xs : List Value) : St := ⟨fun v W => OwnS W base e size n v xs, fun v W W' h hg => h.grow hg⟩
def zeros38 : Array Value := #[.slice none 0 0, .slice none 0 0, .slice none 0 0, .slice none 0 0]
def blkSt (base : Nat) : St := ⟨fun v W => ∃ g, v = .pointer (some ⟨g, 0, none⟩) ∧ base ≤ g ∧ Blk W g zeros38 38, fun v W W' h hg => by
  obtain ⟨g, h1, h2, h3⟩ := h
  exact ⟨g, h1, h2, h3.fr (Fr.of_grow hg) (fun h => h)⟩⟩
def aggSt (base n0 n1 n3 : Nat) (ws bs : List Int) (ds : List Nd) : St := ⟨fun v W => ∃ v0 v1 v3, v = .agg #[v0, v1, .slice none 0 0, v3] ∧ OwnS W base 22 1 n0 v0 (ws.map (Value.int .u32)) ∧ OwnS W base 5 1 n1 v1 (bs.map (Value.int .u8)) ∧ OwnS W base 79 3 n3 v3 (ds.flatMap Nd.cells), fun v W W' h hg => by
  obtain ⟨v0, v1, v3, h1, h2, h3, h4⟩ := h
  exact ⟨v0, v1, v3, h1, h2.grow hg, h3.grow hg, h4.grow hg⟩⟩
/-- The object while it is made: its block g, its four slices. -/
structure FromSt (w W : World) (g n0 n1 n3 : Nat) (v0 v1 vN v3 : Value) (ws bs : List Int) (ns : List Nm) (ds : List Nd) : Prop where
  blk : Blk W g #[v0, v1, vN, v3] 38
  o0 : OwnS W w.heap.size 22 1 n0 v0 (ws.map (Value.int .u32))
  o1 : OwnS W w.heap.size 5 1 n1 v1 (bs.map (Value.int .u8))
  oN : OwnS W w.heap.size 69 4 ns.length vN (ns.flatMap Nm.cells)
  o3 : OwnS W w.heap.size 79 3 n3 v3 (ds.flatMap Nd.cells)
  low : w.heap.size + 2 ≤ g
  below : Below w.heap.size w W
  res : Blk W (w.heap.size + 1) zeros38 38
theorem FromSt.start {w W : World} {g n0 n1 n3 : Nat} {v0 v1 v3 : Value} {ws bs : List Int} {ds : List Nd} (hg : Blk W g zeros38 38) (hlow : w.heap.size + 2 ≤ g) (hb : Below w.heap.size w W) (hres : Blk W (w.heap.size + 1) zeros38 38)
    (h0 : OwnS W w.heap.size 22 1 n0 v0 (ws.map (Value.int .u32))) (h1 : OwnS W w.heap.size 5 1 n1 v1 (bs.map (Value.int .u8))) (h3 : OwnS W w.heap.size 79 3 n3 v3 (ds.flatMap Nd.cells)) :
    FromSt w ((((W.setCell ⟨g, 0, none⟩ v0).setCell ⟨g, 1, none⟩ v1).setCell ⟨g, 2, none⟩ (.slice none 0 0)).setCell ⟨g, 3, none⟩ v3) g n0 n1 n3 v0 v1 (.slice none 0 0) v3 ws bs [] ds := by
  have hf : Fr (fun k => k = g) W ((((W.setCell ⟨g, 0, none⟩ v0).setCell ⟨g, 1, none⟩ v1).setCell ⟨g, 2, none⟩ (.slice none 0 0)).setCell ⟨g, 3, none⟩ v3) :=
    ((((Fr.refl (fun k => k = g) W).setCell (p := ⟨g, 0, none⟩) (fun _ => rfl) _).setCell (p := ⟨g, 1, none⟩) (fun _ => rfl) _).setCell (p := ⟨g, 2, none⟩) (fun _ => rfl) _).setCell (p := ⟨g, 3, none⟩) (fun _ => rfl) _
  refine ⟨?_, h0.fr hf (fun k hk e => row_blk h0.row hg (by decide) (e ▸ hk)), h1.fr hf (fun k hk e => row_blk h1.row hg (by decide) (e ▸ hk)), ⟨none, 0, rfl, Row.nil _ _ _ _⟩, h3.fr hf (fun k hk e => row_blk h3.row hg (by decide) (e ▸ hk)), hlow, hb.trans (hf.below hb.size (fun k e => by omega)), hres.fr hf (by omega)⟩
  have := (((hg.set 0 v0).set 1 v1).set 2 (.slice none 0 0)).set 3 v3
  simpa [zeros38] using this
theorem FromSt.alloc {w W : World} {g n0 n1 n3 : Nat} {v0 v1 vN v3 : Value} {ws bs : List Int} {ns : List Nm} {ds : List Nd} (h : FromSt w W g n0 n1 n3 v0 v1 vN v3 ws bs ns ds) (X : Obj) : FromSt w (W.alloc X) g n0 n1 n3 v0 v1 vN v3 ws bs ns ds := by
  have hg := Grow.alloc W X
  exact ⟨h.blk.alloc X, h.o0.grow hg, h.o1.grow hg, h.oN.grow hg, h.o3.grow hg, h.low, h.below.alloc h.below.size X, h.res.alloc X⟩
theorem FromSt.append {w W W1 : World} {g n0 n1 n3 : Nat} {v0 v1 vN v3 : Value} {ws bs : List Int} {ns : List Nm} {ds : List Nd} {A1 : Option Addr} {c1 : Nat} {x : Nm} (h : FromSt w W g n0 n1 n3 v0 v1 vN v3 ws bs ns ds)
    (hr : Row W1 w.heap.size 69 4 (.slice A1 (ns.length + 1) c1) (ns.length + 1) (ns.flatMap Nm.cells ++ x.cells)) (hg : W.grownBy W1 vN.ownBlock) :
    FromSt w (W1.setCell ⟨g, 2, none⟩ (.slice A1 (ns.length + 1) c1)) g n0 n1 n3 v0 v1 (.slice A1 (ns.length + 1) c1) v3 ws bs (ns ++ [x]) ds := by
  have hN := h.oN.row
  have hfr : Fr (fun k => vN.ownBlock = some k) W W1 := Fr.of_grown hg
  have hblk : Blk W1 g #[v0, v1, vN, v3] 38 := h.blk.fr hfr (fun e => row_blk hN h.blk (by decide) e)
  have hf : Fr (fun k => vN.ownBlock = some k ∨ k = g) W (W1.setCell ⟨g, 2, none⟩ (.slice A1 (ns.length + 1) c1)) := (hfr.mono (fun _ _ e => .inl e)).setCell (p := ⟨g, 2, none⟩) (fun _ => .inr rfl) _
  have keep : ∀ {e size n : Nat} {v : Value} {xs : List Value}, OwnS W w.heap.size e size n v xs → e ≠ 69 → e ≠ 38 → OwnS (W1.setCell ⟨g, 2, none⟩ (.slice A1 (ns.length + 1) c1)) w.heap.size e size n v xs := fun ho h1 h2 => ho.fr hf (fun k hk e => by
    rcases e with e | e
    · exact row_row ho.row hN h1 k hk e
    · exact row_blk ho.row h.blk h2 (e ▸ hk))
  have hlt := h.blk.lt
  refine ⟨?_, keep h.o0 (by decide) (by decide), keep h.o1 (by decide) (by decide), ⟨A1, c1, ?_, ?_⟩, keep h.o3 (by decide) (by decide), h.low, h.below.trans (hf.below h.below.size (fun k e => by
    rcases e with e | e
    · exact (hN.lt k e).1
    · have := h.low; omega)), ?_⟩
  · have := hblk.set 2 (.slice A1 (ns.length + 1) c1)
    simpa using this
  · simp
  · have hne : (Value.slice A1 (ns.length + 1) c1).ownBlock ≠ some g := row_blk hr hblk (by decide)
    have := hr.setCell (p := ⟨g, 2, none⟩) hne (.slice A1 (ns.length + 1) c1)
    simpa using this
  · refine h.res.fr hf (fun e => ?_)
    rcases e with e | e
    · exact row_blk hN h.res (by decide) e
    · have := h.low; omega
end Go.Proofs.Ytgmpcdonmlhohaa
