/- Both kinds of pipes side by side with the act at hand. -/
import Derived.Test.YthlhjaacjhlkhaaPpM
namespace Go.Proofs.Ythlhjaacjhlkhaa
open Go.RowKit
set_option maxHeartbeats 400000
set_option linter.unusedVariables false
set_option linter.unusedSimpArgs false
/-- What is asked of pipes. -/
structure Pact where
  k : Int
  id : Int
  n : Int
  a : Option Addr
  m : Nat
  c : Nat
  bs : List Int
def Pact.zero : Pact := ⟨0, 0, 0, none, 0, 0, []⟩
def Pact.cells (x : Pact) : List Value := [.int .i64 x.k, .int .i64 x.id, .int .i64 x.n, .slice x.a x.m x.c]
def Pact.Fine (x : Pact) (w : World) (B : Nat) : Prop := RB w B x.a x.m x.bs ∧ x.m ≤ x.c ∧ x.c ≤ 9223372036854775807
def RPa (w : World) (B : Nat) (A : Option Addr) (n : Nat) (ps : List Pact) : Prop := RS Pact.cells 4 w B A n ps ∧ ∀ r ∈ ps, r.Fine w B
theorem RPa.below' {w w' : World} {B B' n : Nat} {A : Option Addr} {ps : List Pact} (h : RPa w B A n ps) (hb : Below B' w w') (hB : B ≤ B') : RPa w' B A n ps := ⟨h.1.below' hb hB, fun r hr => ⟨(h.2 r hr).1.below' hb hB, (h.2 r hr).2⟩⟩
theorem RPa.at_ {w : World} {B n k : Nat} {A : Option Addr} {ps : List Pact} (h : RPa w B A n ps) (hk : k < n) : ∃ b o, A = some ⟨b, o, none⟩ ∧ b < B ∧ w.cell? ⟨b, o + k * 4, none⟩ = some (.int .i64 (ps.getD k .zero).k) ∧ w.cell? ⟨b, o + k * 4 + 1, none⟩ = some (.int .i64 (ps.getD k .zero).id) ∧ w.cell? ⟨b, o + k * 4 + 2, none⟩ = some (.int .i64 (ps.getD k .zero).n) ∧ w.cell? ⟨b, o + k * 4 + 3, none⟩ = some (.slice (ps.getD k .zero).a (ps.getD k .zero).m (ps.getD k .zero).c) ∧ (ps.getD k .zero).Fine w B := by
  obtain ⟨b, o, e, hb, hm, hc⟩ := RS.at_ (cl := Pact.cells) (s := 4) (fun _ => rfl) Pact.zero h.1 hk
  exact ⟨b, o, e, hb, hc 0 _ rfl, hc 1 _ rfl, hc 2 _ rfl, hc 3 _ rfl, h.2 _ hm⟩
/-- Both kinds of pipes; the reference may be one step behind; block a8 holds the act. -/
structure Mid (W w : World) (g q0 : Nat) (F1 F : Fs) (b : Nat → Nat) (v : Nat → Value) (vL : Value) (a8 : Nat) (cs : Array Value) : Prop where
  re : Re w W.heap.size g F1 b v
  qe : Qe w W.heap.size q0 vL F
  dis : ∀ k, RFt g F1 b v k → ¬ QFt q0 vL k
  bel : Below W.heap.size W w
  act : Blk w a8 cs 49
  nr : ¬ RFt g F1 b v a8
  nq : ¬ QFt q0 vL a8
  low : W.heap.size ≤ a8
namespace Mid
variable {W w w' : World} {g q0 a8 : Nat} {F F' F1 : Fs} {b : Nat → Nat} {v : Nat → Value} {vL : Value} {cs : Array Value}
theorem grow (h : Mid W w g q0 F1 F b v vL a8 cs) (hb : Below w.heap.size w w') : Mid W w' g q0 F1 F b v vL a8 cs :=
  ⟨h.re.grow hb, h.qe.grow hb, h.dis, h.bel.trans (hb.mono h.bel.size), h.act.fr (Fr.of_grow hb) id, h.nr, h.nq, h.low⟩
/-- The act is laid. -/
theorem lay (h : Bo W w g q0 F b v vL) (cs : Array Value) : Mid W (w.alloc (.cells cs 49)) g q0 F F b v vL w.heap.size cs := by
  have h' := h.grow ((Below.refl _ w).alloc (Nat.le_refl _) (.cells cs 49))
  refine ⟨h'.re, h'.qe, h'.dis, h'.bel, Blk.new w cs 49, fun e => ?_, fun e => ?_, h.bel.size⟩
  · have := h.re.ltF _ e; omega
  · have := h.qe.ltF _ e; omega
theorem bo (h : Mid W w g q0 F F b v vL a8 cs) : Bo W w g q0 F b v vL := ⟨h.re, h.qe, h.dis, h.bel⟩
/-- The real pipes go on. -/
theorem real (h : Mid W w g q0 F F b v vL a8 cs) (hg : RGo w W.heap.size g F b v F' w') : ∃ b' v', Mid W w' g q0 F' F b' v' vL a8 cs := by
  obtain ⟨b', v', m, f, o⟩ := hg
  refine ⟨b', v', m, h.qe.fr f (fun k hq hr => h.dis k hr hq), fun k hk hq => ?_, h.bel.trans (f.below h.bel.size h.re.lowF), h.act.fr f h.nr, fun e => ?_, h.nq, h.low⟩
  · rcases o k hk with e | e
    · exact h.dis k e hq
    · have := h.qe.ltF k hq; omega
  · rcases o _ e with e | e
    · exact h.nr e
    · have := h.act.lt; omega
/-- The reference goes on. -/
theorem side (h : Mid W w g q0 F' F b v vL a8 cs) (hq : QGo w W.heap.size q0 vL F' w') : ∃ vL', Mid W w' g q0 F' F' b v vL' a8 cs := by
  obtain ⟨v', m, f, o⟩ := hq
  refine ⟨v', h.re.fr f h.dis, m, fun k hk hq => ?_, h.bel.trans (f.below h.bel.size h.qe.lowF), h.act.fr f h.nq, h.nr, fun e => ?_, h.low⟩
  · rcases hq with rfl | e
    · exact h.dis k hk (.inl rfl)
    · rcases o k e with e | e
      · exact h.dis k hk (.inr e)
      · have := h.re.ltF k hk; omega
  · rcases e with e | e
    · exact h.nq (.inl e)
    · rcases o _ e with e | e
      · exact h.nq (.inr e)
      · have := h.act.lt; omega
end Mid
def MidE (W w : World) (g q0 a8 : Nat) (cs : Array Value) : Prop := ∃ F b v vL, Mid W w g q0 F F b v vL a8 cs
theorem sameBytes_pp (A A' : Option Addr) (n c n' c' : Nat) (xs ys : List Int) (w : World) (B B' : Nat) (h : RB w B A n xs) (h' : RB w B' A' n' ys) :
    Calls Try.prog 18 #[.slice A n c, .slice A' n' c'] w fun e w' => e = .returned (.bool (decide (xs = ys))) ∧ w = w' := by
  have e1 := h.conv (P := Try.prog) c 23 9 5 Try.underlying23 Try.underlying5 Try.underlying9
  have e2 := h'.conv (P := Try.prog) c' 23 9 5 Try.underlying23 Try.underlying5 Try.underlying9
  go_enter Try.func18, Try.ntmps18
  go_wp2
  go_ret
  exact ⟨by rw [strOfNums_beq h.2 h'.2]; rfl, rfl⟩
end Go.Proofs.Ythlhjaacjhlkhaa
