/- Both kinds of sockets side by side with the act at hand. -/
import Derived.Test.YtmoanemhjcdjkaaSrE
import Derived.Test.YtmoanemhjcdjkaaSkL
import Derived.Test.YtmoanemhjcdjkaaSkI
import Derived.Test.YtmoanemhjcdjkaaSkK
namespace Go.Proofs.Ytmoanemhjcdjkaa
open Go.RowKit Go.Maps
set_option maxHeartbeats 400000
set_option linter.unusedVariables false
set_option linter.unusedSimpArgs false
/-- What is asked of sockets. -/
structure Pact where
  k : Int
  id : Int
  n : Int
  a : Option Addr
  m : Nat
  c : Nat
  bs : List Int
def Pact.zero : Pact := ⟨0, 0, 0, none, 0, 0, []⟩
def Pact.cells (x : Pact) : List Value := [.int .i64 x.k, .int .i64 x.id, .int .i64 x.n, .slice x.a x.m x.c]
def Pact.Fine (x : Pact) (w : World) (B : Nat) : Prop := (RB w B x.a x.m x.bs ∧ x.m ≤ x.c ∧ x.c ≤ 9223372036854775807) ∧ (Lit.int .i64 x.id).wf = true
def RPa (w : World) (B : Nat) (A : Option Addr) (n : Nat) (ps : List Pact) : Prop := RS Pact.cells 4 w B A n ps ∧ ∀ r ∈ ps, r.Fine w B
theorem RPa.below' {w w' : World} {B B' n : Nat} {A : Option Addr} {ps : List Pact} (h : RPa w B A n ps) (hb : Below B' w w') (hB : B ≤ B') : RPa w' B A n ps := ⟨h.1.below' hb hB, fun r hr => ⟨⟨(h.2 r hr).1.1.below' hb hB, (h.2 r hr).1.2⟩, (h.2 r hr).2⟩⟩
theorem RPa.at_ {w : World} {B n k : Nat} {A : Option Addr} {ps : List Pact} (h : RPa w B A n ps) (hk : k < n) : ∃ b o, A = some ⟨b, o, none⟩ ∧ b < B ∧ w.cell? ⟨b, o + k * 4, none⟩ = some (.int .i64 (ps.getD k .zero).k) ∧ w.cell? ⟨b, o + k * 4 + 1, none⟩ = some (.int .i64 (ps.getD k .zero).id) ∧ w.cell? ⟨b, o + k * 4 + 2, none⟩ = some (.int .i64 (ps.getD k .zero).n) ∧ w.cell? ⟨b, o + k * 4 + 3, none⟩ = some (.slice (ps.getD k .zero).a (ps.getD k .zero).m (ps.getD k .zero).c) ∧ (ps.getD k .zero).Fine w B := by
  obtain ⟨b, o, e, hb, hm, hc⟩ := RS.at_ (cl := Pact.cells) (s := 4) (fun _ => rfl) Pact.zero h.1 hk
  exact ⟨b, o, e, hb, hc 0 _ rfl, hc 1 _ rfl, hc 2 _ rfl, hc 3 _ rfl, h.2 _ hm⟩
/-- No slot is taken. -/
def F0 : Fs := fun _ => none
def L0 : Nat → Sl := fun _ => ⟨0, .slice none 0 0, .slice none 0 0⟩
def M0 : Nat → Ml := fun _ => ⟨0, .slice none 0 0⟩
def RetNw (w : World) (e : Ending) (w' : World) : Prop := ∃ g, e = .returned (.pointer (some ⟨g, 0, none⟩)) ∧ Re w' w.heap.size g F0 L0 ∧ Below w.heap.size w w'
theorem new_post (w : World) : RetNw w (.returned (.pointer (some ⟨w.heap.size, 0, none⟩))) (w.alloc (.cells (cellsA F0 (fun i => (L0 i).b)) 56)) :=
  ⟨w.heap.size, rfl, ⟨Blk.new w _ 56, Nat.le_refl _, fun _ _ _ h => (by cases h), fun _ _ _ _ _ _ h => (by cases h)⟩, (Below.refl _ w).alloc (Nat.le_refl _) _⟩
theorem cellsA_F0 : cellsA F0 (fun i => (L0 i).b) = #[.pointer none, .pointer none, .pointer none, .pointer none, .pointer none, .pointer none, .pointer none, .pointer none, .pointer none, .pointer none, .pointer none, .pointer none, .pointer none, .pointer none, .pointer none, .pointer none] := by rfl
set_option maxRecDepth 100000 in
theorem new_any (w : World) : Calls Try.prog 4 #[] w (RetNw w) := by
  have HP := Lib.hid (new_post w)
  rw [cellsA_F0] at HP
  go_enter Try.func4, Try.ntmps4
  go_wp2
  go_ret
  exact HP.out
theorem made_F0 {x y : Int} {F' : Fs} (h : madeR F0 x y F') : x = 1 ∧ y = 0 := by
  rcases h with ⟨hf, _⟩ | ⟨i, hf, rfl, rfl, _⟩
  · exact absurd rfl (hf 0 (by omega))
  · have : i = 0 := free_one hf ⟨by omega, rfl, fun j hj => by omega⟩
    subst this
    exact ⟨rfl, rfl⟩
/-- Both. -/
structure Bo (W w : World) (g b n : Nat) (F : Fs) (L : Nat → Sl) (M : Nat → Ml) : Prop where
  re : Re w W.heap.size g F L
  rr : Rr w W.heap.size b n F M
  inv : Inv F
  dis : ∀ k, RFt g F L k → ¬ TFt b F M k
  bel : Below W.heap.size W w
/-- Both; the reference may be one step behind; block a8 holds the act. -/
structure Mid (W w : World) (g b n : Nat) (F1 F : Fs) (L : Nat → Sl) (M : Nat → Ml) (a8 : Nat) (cs : Array Value) : Prop where
  re : Re w W.heap.size g F1 L
  rr : Rr w W.heap.size b n F M
  i1 : Inv F1
  i2 : Inv F
  dis : ∀ k, RFt g F1 L k → ¬ TFt b F M k
  bel : Below W.heap.size W w
  act : Blk w a8 cs 32
  nr : ¬ RFt g F1 L a8
  nq : ¬ TFt b F M a8
  low : W.heap.size ≤ a8
theorem Bo.grow {W w w' : World} {g b n : Nat} {F : Fs} {L : Nat → Sl} {M : Nat → Ml} (h : Bo W w g b n F L M) (hb : Below w.heap.size w w') : Bo W w' g b n F L M :=
  ⟨h.re.grow hb, h.rr.grow hb, h.inv, h.dis, h.bel.trans (hb.mono h.bel.size)⟩
namespace Mid
variable {W w w' : World} {g b n a8 : Nat} {F F' F1 : Fs} {L : Nat → Sl} {M : Nat → Ml} {cs : Array Value}
theorem grow (h : Mid W w g b n F1 F L M a8 cs) (hb : Below w.heap.size w w') : Mid W w' g b n F1 F L M a8 cs :=
  ⟨h.re.grow hb, h.rr.grow hb, h.i1, h.i2, h.dis, h.bel.trans (hb.mono h.bel.size), h.act.fr (Fr.of_grow hb) id, h.nr, h.nq, h.low⟩
theorem lay (h : Bo W w g b n F L M) (cs : Array Value) : Mid W (w.alloc (.cells cs 32)) g b n F F L M w.heap.size cs := by
  have h' := h.grow ((Below.refl _ w).alloc (Nat.le_refl _) (.cells cs 32))
  refine ⟨h'.re, h'.rr, h.inv, h.inv, h'.dis, h'.bel, Blk.new w cs 32, fun e => ?_, fun e => ?_, h.bel.size⟩
  · have := h.re.ltF _ e; omega
  · have := h.rr.ltF _ e; omega
theorem bo (h : Mid W w g b n F F L M a8 cs) : Bo W w g b n F L M := ⟨h.re, h.rr, h.i1, h.dis, h.bel⟩
/-- The real sockets go on. -/
theorem real (h : Mid W w g b n F F L M a8 cs) (hi : Inv F') (hg : RGo w W.heap.size g F L F' w') : ∃ L', Mid W w' g b n F' F L' M a8 cs := by
  obtain ⟨L', m, f, o⟩ := hg
  refine ⟨L', m, h.rr.fr f (fun k hq hr => h.dis k hr hq), hi, h.i2, fun k hk hq => ?_, h.bel.trans (f.below h.bel.size h.re.lowF), h.act.fr f h.nr, fun e => ?_, h.nq, h.low⟩
  · rcases o k hk with e | e
    · exact h.dis k e hq
    · have := h.rr.ltF k hq; omega
  · rcases o _ e with e | e
    · exact h.nr e
    · have := h.act.lt; omega
/-- The reference goes on. -/
theorem side (h : Mid W w g b n F1 F L M a8 cs) (hq : TGo w W.heap.size b n F M F1 w') : ∃ n' M', n' ≤ n + 1 ∧ Mid W w' g b n' F1 F1 L M' a8 cs := by
  obtain ⟨n', M', hn, m, f, o⟩ := hq
  refine ⟨n', M', hn, h.re.fr f h.dis, m, h.i1, h.i1, fun k hk hq => ?_, h.bel.trans (f.below h.bel.size h.rr.lowF), h.act.fr f h.nq, h.nr, fun e => ?_, h.low⟩
  · rcases o k hq with e | e
    · exact h.dis k hk e
    · have := h.re.ltF k hk; omega
  · rcases o _ e with e | e
    · exact h.nq e
    · have := h.act.lt; omega
end Mid
def BoE (W w : World) (g b m : Nat) : Prop := ∃ F L M n, n ≤ m ∧ Bo W w g b n F L M
def MidE (W w : World) (g b a8 : Nat) (cs : Array Value) (m : Nat) : Prop := ∃ F L M n, n ≤ m ∧ Mid W w g b n F F L M a8 cs
theorem start3 {w w1 w2 w3 : World} {g g2 : Nat} {F3 : Fs} (hr1 : Re w1 w.heap.size g F0 L0) (hb1 : Below w.heap.size w w1)
    (hr2 : Re w2 (w1.alloc (.map #[] 0)).heap.size g2 F0 L0) (hb2 : Below (w1.alloc (.map #[] 0)).heap.size (w1.alloc (.map #[] 0)) w2)
    (hG : RGo w2 (w1.alloc (.map #[] 0)).heap.size g2 F0 L0 F3 w3) : BoE w w3 g w1.heap.size 0 := by
  obtain ⟨L', m, f, o⟩ := hG
  have ha : Below w1.heap.size w1 (w1.alloc (.map #[] 0)) := (Below.refl _ w1).alloc (Nat.le_refl _) _
  have k1 := hb2.trans (f.below hb2.size hr2.lowF)
  have hlt := hr1.blk.lt
  have h0 : Bo w (w1.alloc (.map #[] 0)) g w1.heap.size 0 F0 L0 M0 := ⟨hr1.grow ha, ⟨(PMap.made w1).ext (fun x => by
    unfold pt at1 F0
    split <;> rfl), hb1.size, fun _ _ _ h => (by cases h), fun _ _ _ _ _ _ h => (by cases h)⟩, Inv.empty, (fun k hk hq => by
    rcases hk with e | ⟨_, _, _, h, _⟩
    · rcases hq with e2 | ⟨_, _, _, h, _⟩
      · omega
      · cases h
    · cases h), hb1.trans (ha.mono hb1.size)⟩
  exact ⟨_, _, _, _, Nat.le_refl _, h0.grow k1⟩
/-- A call of the program, then the same call of the reference. -/
def MidR (W : World) (g b n : Nat) (F : Fs) (M : Nat → Ml) (a8 : Nat) (cs : Array Value) (R : Int → Fs → Prop) (u : Value) (w' : World) : Prop := ∃ x F' L', u = .int .i64 x ∧ R x F' ∧ Mid W w' g b n F' F L' M a8 cs
def MidQ (W : World) (g b n a8 : Nat) (cs : Array Value) (x : Int) (u : Value) (w' : World) : Prop := u = .int .i64 x ∧ MidE W w' g b a8 cs (n + 1)
section
variable {W w w' : World} {g b n a8 : Nat} {F F' F1 : Fs} {L : Nat → Sl} {M : Nat → Ml} {cs : Array Value}
theorem mid_real {R : Int → Fs → Prop} (h : Mid W w g b n F F L M a8 cs) (hi : ∀ x F', R x F' → Inv F') {f : FuncId} {args : Array Value} (hc : Calls Try.prog f args w (NamePost w W.heap.size g F L R)) : Calls Try.prog f args w fun e' w' => ∃ u, e' = .returned u ∧ MidR W g b n F M a8 cs R u w' :=
  hc.mono (by
    rintro e' w' ⟨x, F', rfl, hr, hg⟩
    obtain ⟨L', hm⟩ := h.real (hi x F' hr) hg
    exact ⟨_, rfl, x, F', L', rfl, hr, hm⟩)
theorem mid_side {R : Int → Fs → Prop} {x : Int} (h : Mid W w g b n F1 F L M a8 cs) (hf : ∀ y F', R y F' → y = x ∧ F' = F1) {f : FuncId} {args : Array Value} (hc : Calls Try.prog f args w (NameQ w W.heap.size b n F M R)) : Calls Try.prog f args w fun e' w' => ∃ u, e' = .returned u ∧ MidQ W g b n a8 cs x u w' :=
  hc.mono (by
    rintro e' w' ⟨y, F', rfl, hr, hg⟩
    obtain ⟨rfl, rfl⟩ := hf y F' hr
    obtain ⟨n', M', hn, hm⟩ := h.side hg
    exact ⟨_, rfl, rfl, _, _, _, n', hn, hm⟩)
end
end Go.Proofs.Ytmoanemhjcdjkaa
