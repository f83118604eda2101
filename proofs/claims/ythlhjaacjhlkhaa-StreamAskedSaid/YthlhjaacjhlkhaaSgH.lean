/- Both ends side by side with the act at hand: the program's and the reference's. -/
import Derived.Test.YthlhjaacjhlkhaaSgE
import Derived.Test.YthlhjaacjhlkhaaSgF
import Derived.Test.YthlhjaacjhlkhaaSgG
import Derived.Test.YthlhjaacjhlkhaaStZ2
import Derived.Test.YthlhjaacjhlkhaaStY4
import Derived.Test.YthlhjaacjhlkhaaStFb
import Derived.Test.YthlhjaacjhlkhaaRecs
namespace Go.Proofs.Ythlhjaacjhlkhaa
open Go.RowKit
set_option maxHeartbeats 400000
set_option linter.unusedVariables false
set_option linter.unusedSimpArgs false
/-- What an end of a stream is asked. -/
structure Sact where
  k : Int
  n : Int
  a : Option Addr
  m : Nat
  c : Nat
  ds : List Int
  seq : Int
  ack : Int
  flags : Int
  window : Int
  A : Option Addr
  n2 : Nat
  c2 : Nat
  dat : List Int
namespace Sact
def zero : Sact := ⟨0, 0, none, 0, 0, [], 0, 0, 0, 0, none, 0, 0, []⟩
def cells (x : Sact) : List Value := [.int .i64 x.k, .int .i64 x.n, .slice x.a x.m x.c, .int .u32 x.seq, .int .u32 x.ack, .int .i64 x.flags, .int .i64 x.window, .slice x.A x.n2 x.c2]
structure Fine (x : Sact) (w : World) (B : Nat) : Prop where
  ds : RB w B x.a x.m x.ds
  mc : x.m ≤ x.c ∧ x.c ≤ 9223372036854775807
  dat : RB w B x.A x.n2 x.dat
  nc : x.n2 ≤ x.c2 ∧ x.c2 ≤ 9223372036854775807
  seq : 0 ≤ x.seq ∧ x.seq < 4294967296
  ack : 0 ≤ x.ack ∧ x.ack < 4294967296
  flags : -9223372036854775808 ≤ x.flags ∧ x.flags ≤ 9223372036854775807
  window : -9223372036854775808 ≤ x.window ∧ x.window ≤ 9223372036854775807
end Sact
def RSa (w : World) (B : Nat) (A : Option Addr) (n : Nat) (ps : List Sact) : Prop := RS Sact.cells 8 w B A n ps ∧ ∀ r ∈ ps, r.Fine w B
theorem Sact.Fine.below {w w' : World} {B B' : Nat} {x : Sact} (h : x.Fine w B) (hb : Below B' w w') (hB : B ≤ B') : x.Fine w' B :=
  ⟨h.ds.below' hb hB, h.mc, h.dat.below' hb hB, h.nc, h.seq, h.ack, h.flags, h.window⟩
theorem RSa.below' {w w' : World} {B B' n : Nat} {A : Option Addr} {ps : List Sact} (h : RSa w B A n ps) (hb : Below B' w w') (hB : B ≤ B') : RSa w' B A n ps := ⟨h.1.below' hb hB, fun r hr => (h.2 r hr).below hb hB⟩
theorem RSa.at_ {w : World} {B n k : Nat} {A : Option Addr} {ps : List Sact} (h : RSa w B A n ps) (hk : k < n) : ∃ b o, A = some ⟨b, o, none⟩ ∧ b < B ∧ w.cell? ⟨b, o + k * 8, none⟩ = some (.int .i64 (ps.getD k .zero).k) ∧ w.cell? ⟨b, o + k * 8 + 1, none⟩ = some (.int .i64 (ps.getD k .zero).n) ∧ w.cell? ⟨b, o + k * 8 + 2, none⟩ = some (.slice (ps.getD k .zero).a (ps.getD k .zero).m (ps.getD k .zero).c) ∧
    w.cell? ⟨b, o + k * 8 + 3, none⟩ = some (.int .u32 (ps.getD k .zero).seq) ∧ w.cell? ⟨b, o + k * 8 + 4, none⟩ = some (.int .u32 (ps.getD k .zero).ack) ∧ w.cell? ⟨b, o + k * 8 + 5, none⟩ = some (.int .i64 (ps.getD k .zero).flags) ∧ w.cell? ⟨b, o + k * 8 + 6, none⟩ = some (.int .i64 (ps.getD k .zero).window) ∧ w.cell? ⟨b, o + k * 8 + 7, none⟩ = some (.slice (ps.getD k .zero).A (ps.getD k .zero).n2 (ps.getD k .zero).c2) ∧ (ps.getD k .zero).Fine w B := by
  obtain ⟨b, o, e, hb, hm, hc⟩ := RS.at_ (cl := Sact.cells) (s := 8) (fun _ => rfl) Sact.zero h.1 hk
  exact ⟨b, o, e, hb, hc 0 _ rfl, hc 1 _ rfl, hc 2 _ rfl, hc 3 _ rfl, hc 4 _ rfl, hc 5 _ rfl, hc 6 _ rfl, hc 7 _ rfl, h.2 _ hm⟩
/-- Both ends. -/
structure SBo (W w : World) (g q : Nat) (s : Sm) (x : EC) (vo vi vp vj : Value) : Prop where
  tie : Tie s x
  e : ESt w W.heap.size g x vo vi s.out s.inn
  r : RSt w W.heap.size q s vp vj
  dis : ∀ k, Ob2F g vo vi k → ¬ Ob2F q vp vj k
  bel : Below W.heap.size W w
def SBoE (W w : World) (g q m : Nat) : Prop := ∃ s x vo vi vp vj, SBo W w g q s x vo vi vp vj ∧ s.Ok m ∧ s.Fn
/-- Both ends; the reference may be one step behind; block a8 holds the act. -/
structure SMid (W w : World) (g q : Nat) (s1 s2 : Sm) (x : EC) (vo vi vp vj : Value) (a8 : Nat) (cs : Array Value) : Prop where
  tie : Tie s1 x
  e : ESt w W.heap.size g x vo vi s1.out s1.inn
  r : RSt w W.heap.size q s2 vp vj
  dis : ∀ k, Ob2F g vo vi k → ¬ Ob2F q vp vj k
  bel : Below W.heap.size W w
  act : Blk w a8 cs 70
  ne : ¬ Ob2F g vo vi a8
  nr : ¬ Ob2F q vp vj a8
  low : W.heap.size ≤ a8
namespace SMid
variable {W w w' : World} {g q a8 : Nat} {s s1 s2 s' : Sm} {x x' : EC} {vo vi vp vj : Value} {cs : Array Value}
theorem grow (h : SMid W w g q s1 s2 x vo vi vp vj a8 cs) (hb : Below w.heap.size w w') : SMid W w' g q s1 s2 x vo vi vp vj a8 cs :=
  ⟨h.tie, Ob2.grow h.e hb, Ob2.grow h.r hb, h.dis, h.bel.trans (hb.mono h.bel.size), h.act.fr (Fr.of_grow hb) id, h.ne, h.nr, h.low⟩
theorem lay (h : SBo W w g q s x vo vi vp vj) (cs : Array Value) : SMid W (w.alloc (.cells cs 70)) g q s s x vo vi vp vj w.heap.size cs := by
  have hb : Below w.heap.size w (w.alloc (.cells cs 70)) := (Below.refl _ w).alloc (Nat.le_refl _) (.cells cs 70)
  refine ⟨h.tie, Ob2.grow h.e hb, Ob2.grow h.r hb, h.dis, h.bel.trans (hb.mono h.bel.size), Blk.new w cs 70, fun e => ?_, fun e => ?_, h.bel.size⟩
  · have := (Ob2.lt h.e _ e).2; omega
  · have := (Ob2.lt h.r _ e).2; omega
theorem bo (h : SMid W w g q s s x vo vi vp vj a8 cs) : SBo W w g q s x vo vi vp vj := ⟨h.tie, h.e, h.r, h.dis, h.bel⟩
/-- The program goes on. -/
theorem real (h : SMid W w g q s1 s2 x vo vi vp vj a8 cs) (t : Tie s' x') (hg : EGo w W.heap.size g vo vi x' s'.out s'.inn w') : ∃ vo' vi', SMid W w' g q s' s2 x' vo' vi' vp vj a8 cs := by
  obtain ⟨v1, v2, m, f, o⟩ := hg
  refine ⟨v1, v2, t, m, Ob2.keep h.r f (fun k hq hr => h.dis k hr hq), fun k hk hq => ?_, h.bel.trans (f.below h.bel.size (fun k hk => (Ob2.lt h.e k hk).1)), h.act.fr f h.ne, fun e => ?_, h.nr, h.low⟩
  · rcases o k hk with e | e
    · exact h.dis k e hq
    · have := (Ob2.lt h.r k hq).2; omega
  · rcases o _ e with e | e
    · exact h.ne e
    · have := h.act.lt; omega
/-- The reference goes on. -/
theorem side (h : SMid W w g q s1 s2 x vo vi vp vj a8 cs) (hq : RSGo w W.heap.size q vp vj s' w') : ∃ vp' vj', SMid W w' g q s1 s' x vo vi vp' vj' a8 cs := by
  obtain ⟨v1, v2, m, f, o⟩ := hq
  refine ⟨v1, v2, h.tie, Ob2.keep h.e f (fun k hk hq => h.dis k hk hq), m, fun k hk hq => ?_, h.bel.trans (f.below h.bel.size (fun k hk => (Ob2.lt h.r k hk).1)), h.act.fr f h.nr, h.ne, fun e => ?_, h.low⟩
  · rcases o k hq with e | e
    · exact h.dis k hk e
    · have := (Ob2.lt h.e k hk).2; omega
  · rcases o _ e with e | e
    · exact h.nr e
    · have := h.act.lt; omega
theorem ltR (h : SMid W w g q s1 s2 x vo vi vp vj a8 cs) : ∀ k, Ob2F q vp vj k → k < w.heap.size := fun k hk => (Ob2.lt h.r k hk).2
end SMid
def SMidE (W w : World) (g q a8 : Nat) (cs : Array Value) (m : Nat) : Prop := ∃ s x vo vi vp vj, SMid W w g q s s x vo vi vp vj a8 cs ∧ s.Ok m ∧ s.Fn
/-- Bytes in new blocks last while the reference goes on. -/
theorem RB.fresh {w w' : World} {B n c : Nat} {A : Option Addr} {xs : List Int} {S : Nat → Prop} (h : RB w B A n xs) (hB : B ≤ w.heap.size) (hf : Fr S w w') (hn : ∀ j, (Value.slice A n c).ownBlock = some j → ¬ S j) : RB w' B A n xs := by
  refine ⟨⟨h.1.1, fun h0 => ?_⟩, h.2⟩
  obtain ⟨b, o, e, hb, hc⟩ := h.1.2 h0
  subst e
  exact ⟨b, o, rfl, hb, fun j u hu => (hf.cell (p := ⟨b, o + j, none⟩) (Nat.lt_of_lt_of_le hb hB) (hn b rfl)).trans (hc j u hu)⟩
/-! the start -/
structure SIni (W w : World) (g q : Nat) : Prop where
  e : ESt w W.heap.size g ex0 (.slice none 0 0) (.slice none 0 0) [] []
  r : RSt w W.heap.size q sm0 (.slice none 0 0) (.slice none 0 0)
  bel : Below W.heap.size W w
  ne : g ≠ q
theorem sini (W : World) : SIni W ((W.alloc (.cells (ecells ex0 (.slice none 0 0) (.slice none 0 0)) 128)).alloc (.cells (rcells sm0 (.slice none 0 0) (.slice none 0 0)) 66)) W.heap.size (W.heap.size + 1) := by
  have hb1 : Below W.heap.size W (W.alloc (.cells (ecells ex0 (.slice none 0 0) (.slice none 0 0)) 128)) := (Below.refl _ _).alloc (Nat.le_refl _) _
  have h1 := ob0 W W.heap.size 128 (ecells ex0) (Nat.le_refl _)
  have hb2 : Below (W.alloc (.cells (ecells ex0 (.slice none 0 0) (.slice none 0 0)) 128)).heap.size _ ((W.alloc (.cells (ecells ex0 (.slice none 0 0) (.slice none 0 0)) 128)).alloc (.cells (rcells sm0 (.slice none 0 0) (.slice none 0 0)) 66)) := (Below.refl _ _).alloc (Nat.le_refl _) _
  have h2 := ob0 (W.alloc (.cells (ecells ex0 (.slice none 0 0) (.slice none 0 0)) 128)) W.heap.size 66 (rcells sm0) (by simp)
  refine ⟨Ob2.grow h1 hb2, ?_, hb1.trans (hb2.mono (by simp)), by omega⟩
  have e : (W.alloc (.cells (ecells ex0 (.slice none 0 0) (.slice none 0 0)) 128)).heap.size = W.heap.size + 1 := by simp
  rw [e] at h2
  exact h2
theorem nilF {g k : Nat} (h : Ob2F g (.slice none 0 0) (.slice none 0 0) k) : k = g := by
  rcases h with h | h | h
  · exact h
  · simp [Value.ownBlock] at h
  · simp [Value.ownBlock] at h
theorem SIni.begun {W w w3 w4 : World} {g q : Nat} {st iss : Int} (h : SIni W w g q) (hi : 0 ≤ iss ∧ iss < 4294967296) (hs : st = 1 ∨ st = 2) (e3 : ESt w3 W.heap.size g (exB st iss) (.slice none 0 0) (.slice none 0 0) [] []) (hf : Fr (fun k => k = g) w w3)
    (hr : RSGo w3 W.heap.size q (.slice none 0 0) (.slice none 0 0) (Sm.start st iss) w4) : ∃ vp vj, SBo W w4 g q (Sm.start st iss) (exB st iss) (.slice none 0 0) (.slice none 0 0) vp vj := by
  obtain ⟨v1, v2, m, f, o⟩ := hr
  have hlow : W.heap.size ≤ g := (Ob2.lt h.e g (.inl rfl)).1
  have hlow2 : W.heap.size ≤ q := (Ob2.lt h.r q (.inl rfl)).1
  have e4 : ESt w4 W.heap.size g (exB st iss) (.slice none 0 0) (.slice none 0 0) [] [] := Ob2.keep e3 f (fun k hk hq => by have h1 := nilF hk; have h2 := nilF hq; exact h.ne (h1.symm.trans h2))
  refine ⟨v1, v2, Tie.start st iss hi hs, e4, m, fun k hk hq => ?_, (h.bel.trans (hf.below h.bel.size (fun k hk => by have hk : k = g := hk; omega))).trans (f.below (Nat.le_trans h.bel.size hf.size) (fun k hk => by have := nilF hk; omega))⟩
  have h1 := nilF hk
  rcases o k hq with h2 | h2
  · exact h.ne (h1.symm.trans (nilF h2))
  · have := (Ob2.lt e3 k hk).2; omega
/-! the calls of the drawn way -/
def ComeM (W : World) (g q : Nat) (s1 s2 : Sm) (vp vj : Value) (a8 : Nat) (cs : Array Value) (er : Int) (u : Value) (w' : World) : Prop := u = .int .i64 er ∧ ∃ x vo vi, SMid W w' g q s1 s2 x vo vi vp vj a8 cs
def ComeN (W : World) (g q : Nat) (s1 s2 : Sm) (a8 : Nat) (cs : Array Value) (er : Int) (u : Value) (w' : World) : Prop := u = .int .i64 er ∧ ∃ x vo vi vp vj, SMid W w' g q s1 s2 x vo vi vp vj a8 cs
section
variable {W w : World} {g q a8 m : Nat} {s s1 : Sm} {x : EC} {vo vi vp vj : Value} {cs : Array Value}
theorem come_mid (h : SMid W w g q s s x vo vi vp vj a8 cs) (hok : s.Ok m) (hm : m ≤ 1000) (y : Sg) (hs : 0 ≤ y.seq ∧ y.seq < 4294967296) (ha : 0 ≤ y.ack ∧ y.ack < 4294967296) (A : Option Addr) (n c : Nat) (hd : RB w W.heap.size A n y.dat) (hnc : n ≤ c) (hcm : c ≤ 9223372036854775807) :
    Calls Try.prog 52 #[.pointer (some ⟨g, 0, none⟩), .agg #[.int .u32 y.seq, .int .u32 y.ack, .int .i64 y.flags, .int .i64 y.window, .slice A n c]] w fun e' w' => ∃ u, e' = .returned u ∧ ComeM W g q (if checkI y.flags y.window n = 0 then s.cameS y else s) s vp vj a8 cs (s.cameE (checkI y.flags y.window n)) u w' :=
  (ecome h.e h.tie h.bel.size y hs ha A n c hd hnc hcm hok hm).mono (by
    rintro e' w' ⟨rfl, x', t, hG⟩
    obtain ⟨v1, v2, hM⟩ := h.real t hG
    exact ⟨_, rfl, rfl, _, _, _, hM⟩)
theorem came_mid (h : SMid W w g q s1 s x vo vi vp vj a8 cs) (hok : s.Ok m) (hm : m ≤ 1000) (y : Sg) (hs : 0 ≤ y.seq ∧ y.seq < 4294967296) (ha : 0 ≤ y.ack ∧ y.ack < 4294967296) (hf : -9223372036854775808 ≤ y.flags ∧ y.flags ≤ 9223372036854775807) (hwi : -9223372036854775808 ≤ y.window ∧ y.window ≤ 9223372036854775807) (A : Option Addr) (n c : Nat) (hd : RB w W.heap.size A n y.dat) (hnc : n ≤ c) (hcm : c ≤ 9223372036854775807) :
    Calls Try.prog 53 #[.pointer (some ⟨q, 0, none⟩), .agg #[.int .u32 y.seq, .int .u32 y.ack, .int .i64 y.flags, .int .i64 y.window, .slice A n c]] w fun e' w' => ∃ u, e' = .returned u ∧ ComeN W g q s1 (if checkI y.flags y.window n = 0 then s.cameS y else s) a8 cs (s.cameE (checkI y.flags y.window n)) u w' :=
  (rcame h.r h.bel.size y hs ha hf hwi A n c hd hnc hcm hok hm).mono (by
    rintro e' w' ⟨rfl, hQ⟩
    obtain ⟨v1, v2, hM⟩ := h.side hQ
    exact ⟨_, rfl, rfl, _, _, _, _, _, hM⟩)
theorem came_ok (hok : s.Ok m) (hfn : s.Fn) (y : Sg) (hs : 0 ≤ y.seq ∧ y.seq < 4294967296) (ha : 0 ≤ y.ack ∧ y.ack < 4294967296) {n : Nat} (hn : y.dat.length = n) (hb : Byt y.dat) : (if checkI y.flags y.window n = 0 then s.cameS y else s).Ok (m + 1) ∧ (if checkI y.flags y.window n = 0 then s.cameS y else s).Fn := by
  by_cases he : checkI y.flags y.window n = 0
  · rw [if_pos he]
    have hx : y.Fine := by
      unfold checkI at he
      split at he
      · cases he
      · split at he
        · cases he
        · exact ⟨hs, ha, by omega, by omega, by omega, hb⟩
    exact ⟨hok.came hx, hfn.came y⟩
  · rw [if_neg he]
    exact ⟨hok.more, hfn⟩
theorem Sm.Fn.outs (hok : s.Ok m) (hfn : s.Fn) : s.outsO.2.Fn := by
  have hloop : ∀ (lim f : Nat) (s1 : Sm), s1.Fn → s1.st = 4 → s1.Ok m → lim ≤ s1.said.length → (Sm.loopO lim f s1).2.Fn ∧ (Sm.loopO lim f s1).2.Ok m ∧ (Sm.loopO lim f s1).2.st = 4 ∧ (Sm.loopO lim f s1).2.said = s1.said := by
    intro lim f
    induction f with
    | zero => intro s1 h1 h4 h2 h3; exact ⟨h1, h2, h4, rfl⟩
    | succ f ih =>
      intro s1 h1 h4 h2 h3
      unfold Sm.loopO
      split
      · rename_i hlt
        have hl := h2.late h4
        have hu := h2.un
        have := ih (s1.sayS (min 32 (lim - (s1.nxt - 1)))) (h1.say (fun _ => by omega)) h4 (h2.say (by omega) (fun h => by omega)) h3
        exact this
      · exact ⟨h1, h2, h4, rfl⟩
  unfold Sm.outsO
  split
  · rename_i h4
    obtain ⟨a1, a2, a3, a4⟩ := hloop s.limitN 64 s hfn h4 hok s.limit_le
    show (Sm.dueO (Sm.finO (Sm.loopO s.limitN 64 s).2).2).2.Fn
    have b1 : (Sm.finO (Sm.loopO s.limitN 64 s).2).2.Fn ∧ (Sm.finO (Sm.loopO s.limitN 64 s).2).2.Ok m := by
      unfold Sm.finO
      split
      · rename_i h5
        have hl := a2.late a3
        have hu := a2.un
        exact ⟨a1.say (fun h6 => by rw [h5.1] at h6; cases h6), a2.say (by omega) (fun h => by omega)⟩
      · exact ⟨a1, a2⟩
    unfold Sm.dueO
    split
    · refine b1.1.say (fun h6 => ?_)
      have := b1.1 h6
      have := b1.2.nt
      omega
    · exact b1.1
  · unfold Sm.synO
    split
    · rename_i h5
      exact hfn.say (fun _ => by omega)
    · exact hfn
end
end Go.Proofs.Ythlhjaacjhlkhaa
