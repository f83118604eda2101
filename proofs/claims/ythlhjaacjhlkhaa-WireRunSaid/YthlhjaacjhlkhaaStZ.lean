/- One end of a stream: contract of Come (a segment comes), said of the state as the reference keeps it. -/
import Derived.Test.YthlhjaacjhlkhaaStK
namespace Go.Proofs.Ythlhjaacjhlkhaa
open Go.RowKit
set_option maxHeartbeats 400000
set_option linter.unusedVariables false
set_option linter.unusedSimpArgs false
/-- The object says the state s' now. -/
def ESGo (w : World) (B g : Nat) (vo vi : Value) (s' : Sm) (w' : World) : Prop := ∃ x', Tie s' x' ∧ EGo w B g vo vi x' s'.out s'.inn w'
def ESRet (er : Int) (w : World) (B g : Nat) (vo vi : Value) (s' : Sm) (e : Ending) (w' : World) : Prop := e = .returned (.int .i64 er) ∧ ESGo w B g vo vi s' w'
structure EPos (w : World) (B g : Nat) (vo vi : Value) (sb : Array Value) (W : World) (x : EC) (vo' vi' : Value) (xs ys : List Int) : Prop where
  p : Pos w B g vo vi sb W x vo' vi' xs ys
  nf : ¬ Ob2F g vo' vi' w.heap.size
namespace EPos
variable {w W W' : World} {B g : Nat} {vo vi vo' vi' : Value} {sb : Array Value} {x x' : EC} {xs ys xs' ys' : List Int}
theorem init (h : ESt w B g x vo vi xs ys) (hb : Below w.heap.size w W) (hk : ∀ j, W.cell? ⟨w.heap.size, j, none⟩ = sb[j]?) (hs : w.heap.size < W.heap.size) : EPos w B g vo vi sb W x vo vi xs ys :=
  ⟨⟨Ob2.grow h hb, At2.grow hb, hk, hs, by have := (Ob2.blk h).lt; omega⟩, fun e => by have := (Ob2.lt h _ e).2; omega⟩
theorem grow (h : EPos w B g vo vi sb W x vo' vi' xs ys) (hb : Below W.heap.size W W') : EPos w B g vo vi sb W' x vo' vi' xs ys := ⟨h.p.grow hb, h.nf⟩
theorem drew (h : EPos w B g vo vi sb W x vo' vi' xs ys) : EPos w B g vo vi sb W.drew x vo' vi' xs ys := ⟨h.p.drew, h.nf⟩
theorem drewN (h : EPos w B g vo vi sb W x vo' vi' xs ys) (m : Nat) : EPos w B g vo vi sb (W.drewN m) x vo' vi' xs ys := ⟨h.p.drewN m, h.nf⟩
theorem set1 (h : EPos w B g vo vi sb W x vo' vi' xs ys) (j : Nat) (u : Value) (ha : (ecells x vo' vi').setIfInBounds j u = ecells x' vo' vi') : EPos w B g vo vi sb (W.setCell ⟨g, j, none⟩ u) x' vo' vi' xs ys := ⟨h.p.set1 j u ha, h.nf⟩
theorem then_ (h : EPos w B g vo vi sb W x vo' vi' xs ys) (hg : EGo W B g vo' vi' x' xs' ys' W') : EGo w B g vo vi x' xs' ys' W' := by
  obtain ⟨v1, v2, a1, a2, a3⟩ := hg
  exact (h.p.a.trans ⟨a2, a3⟩).go a1
theorem call (h : EPos w B g vo vi sb W x vo' vi' xs ys) (hg : EGo W B g vo' vi' x' xs' ys' W') : ∃ v1 v2, EPos w B g vo vi sb W' x' v1 v2 xs' ys' := by
  obtain ⟨v1, v2, a1, a2, a3⟩ := hg
  refine ⟨v1, v2, ⟨a1, h.p.a.trans ⟨a2, a3⟩, fun j => (a2.cell (p := ⟨w.heap.size, j, none⟩) h.p.s h.nf).trans (h.p.k j), Nat.lt_of_lt_of_le h.p.s a2.size, h.p.ng⟩, fun e => ?_⟩
  rcases a3 _ e with h1 | h1
  · exact h.nf h1
  · have := h.p.s; omega
end EPos
theorem sg_bits' (f : Int) : (f % 2 != 0) = decide (f % 2 = 1) ∧ (f / 2 % 2 * 2 != 0) = decide (f / 2 % 2 = 1) := by
  constructor
  · rcases (by omega : f % 2 = 0 ∨ f % 2 = 1) with h | h <;> simp [h]
  · rcases (by omega : f / 2 % 2 = 0 ∨ f / 2 % 2 = 1) with h | h <;> simp [h]
/-! the ties of the ways -/
section
variable {s : Sm} {x : EC} {m : Nat}
theorem early_acked (ok : s.Ok m) (h : s.st ≤ 3) : s.acked = 0 := by
  have := (ok.early h).1
  show min (s.una - 1) s.said.length = 0
  omega
theorem early_first (t : Tie s x) (ok : s.Ok m) (h : s.st ≤ 3) : x.first = s.seqI 1 := by
  rw [t.first, early_acked ok h]
  unfold Sm.seqI
  simp
theorem tie_heard (t : Tie s x) (ok : s.Ok m) (h : s.st = 1) (sq wi : Int) : Tie { s with st := 3, irs := sq, peer := wi } { x with st := 3, rcv := (sq + 1) % 4294967296, peer := wi } := by
  obtain ⟨e1, e2, e3, e4, e5⟩ := ok.early (by omega)
  refine ⟨rfl, t.una, t.nxt, t.top, t.first, fun _ => ?_, rfl, t.shut, t.fin, t.due, t.wait, t.tries⟩
  show (sq + 1) % 4294967296 = (sq + 1 + s.got.length + (if s.fin = true then 1 else 0)) % 4294967296
  rw [e3, e5]; simp
theorem open_rows (ok : s.Ok m) (h : s.st ≤ 3) (irs wi : Int) (due : Bool) : s.out = (Sm.openS { s with irs := irs, due := due } wi).out := by
  have e := early_acked ok h
  show s.said.drop s.acked = s.said.drop (min (1 - 1) s.said.length)
  rw [e]; simp
theorem tie_open2 (t : Tie s x) (ok : s.Ok m) (h : s.st ≤ 3) (ht : s.top = 1) (sq wi : Int) : Tie (Sm.openS { s with irs := sq, due := true } wi) { x with st := 4, rcv := (sq + 1) % 4294967296, peer := wi, due := true, una := x.first, nxt := x.first, top := x.first, wait := 0, tries := 0 } := by
  obtain ⟨e1, e2, e3, e4, e5⟩ := ok.early h
  have hf := early_first t ok h
  refine ⟨rfl, hf, hf, ?_, ?_, fun _ => ?_, rfl, t.shut, t.fin, rfl, rfl, rfl⟩
  · show x.first = s.seqI s.top
    rw [ht]; exact hf
  · show x.first = (s.iss + 1 + (min (1 - 1) s.said.length : Nat)) % 4294967296
    rw [hf]; unfold Sm.seqI; simp
  · show (sq + 1) % 4294967296 = (sq + 1 + s.got.length + (if s.fin = true then 1 else 0)) % 4294967296
    rw [e3, e5]; simp
theorem tie_open3 (t : Tie s x) (ok : s.Ok m) (h : s.st = 3) (wi : Int) : Tie (Sm.openS s wi) { x with st := 4, peer := wi, una := x.first, nxt := x.first, wait := 0, tries := 0 } := by
  have hf := early_first t ok (by omega)
  refine ⟨rfl, hf, hf, t.top, ?_, fun _ => t.rcv (.inl h), rfl, t.shut, t.fin, t.due, rfl, rfl⟩
  show x.first = (s.iss + 1 + (min (1 - 1) s.said.length : Nat)) % 4294967296
  rw [hf]; unfold Sm.seqI; simp
theorem tie_again (t : Tie s x) (ok : s.Ok m) (h : s.st = 3) : Tie { s with nxt := 0 } { x with nxt := x.una } := by
  have e := (ok.early (by omega)).1
  refine ⟨t.st, t.una, ?_, t.top, t.first, t.rcv, t.peer, t.shut, t.fin, t.due, t.wait, t.tries⟩
  show x.una = s.seqI 0
  rw [t.una, e]
theorem mine_eq (t : Tie s x) (ok : s.Ok m) (h : s.st ≤ 3) (y : Sg) : s.mineB y = (y.ac && (y.ack == x.first) && (x.top == x.first)) := by
  obtain ⟨e1, e2, e3, e4, e5⟩ := ok.early h
  have hf := early_first t ok h
  unfold Sm.mineB
  rw [hf, t.top]
  have a2 : (s.seqI s.top == s.seqI 1) = decide (s.top = 1) := by
    rw [Bool.eq_iff_iff, beq_iff_eq, decide_eq_true_eq]
    exact seqI_inj ok (by omega) (by omega)
  rw [a2]
  rfl
theorem again_eq (t : Tie s x) (ok : s.Ok m) (h : s.st = 3) {sq : Int} (hs : 0 ≤ sq ∧ sq < 4294967296) : ((sq + 1) % 4294967296 == x.rcv) = decide (sq = s.irs) := by
  obtain ⟨e1, e2, e3, e4, e5⟩ := ok.early (by omega)
  have hi := ok.irs
  rw [t.rcv (.inl h)]
  unfold Sm.awI
  rw [e3, e5, Bool.eq_iff_iff, beq_iff_eq, decide_eq_true_eq]
  simp only [List.length_nil, Bool.false_eq_true, if_false]
  omega
end
theorem anX_st (x : EC) (l : Nat) (ak f wi : Int) : (anX x l ak f wi).st = x.st := by
  unfold anX
  (repeat' split) <;> rfl
section
variable {w : World} {B g : Nat} {x : EC} {s : Sm} {vo vi : Value} {m : Nat}
set_option maxHeartbeats 8000000 in
set_option maxRecDepth 100000 in
theorem ecome_on1 (h : ESt w B g x vo vi s.out s.inn) (tie : Tie s x) (hB : B ≤ w.heap.size) (sq ak f wi : Int) (ds : List Int) (hx : Sg.Fine ⟨sq, ak, f, wi, ds⟩) (A : Option Addr) (n c : Nat) (hd : Far w g vo vi A n ds) (hnc : n ≤ c) (hcm : c ≤ 9223372036854775807) (he : checkI f wi n = 0) (hok : s.Ok m) (hm : m ≤ 1000) (hs5 : s.st ≠ 5) (hr : f / 8 % 2 = 0) (hst3 : s.st = 1) :
    Calls Try.prog 52 #[.pointer (some ⟨g, 0, none⟩), .agg #[.int .u32 sq, .int .u32 ak, .int .i64 f, .int .i64 wi, .slice A n c]] w (ESRet 0 w B g vo vi (s.cameS ⟨sq, ak, f, wi, ds⟩)) := by
  have HGB := Lib.hid (fun w' (hb : Below w.heap.size w w') => Ob2.grow h hb)
  have HCK := Lib.hid (fun W => check_any sq ak f wi A n c W)
  rw [he] at HCK
  have HRB := Lib.hid (fun w' v1 v2 (ha : At2 w g vo vi w' v1 v2) => hd.at ha)
  have HINI := Lib.hid (fun w' (hb : Below w.heap.size w w') hk hs => EPos.init (sb := sgb sq ak f wi A n c) (W := w') h hb hk hs)
  have d2 : (x.st == 0) = false := by rw [beq_eq_false_iff_ne, tie.st]; have := hok.st0; omega
  have d3 : (x.st == 5) = false := by rw [tie.st]; simpa using hs5
  obtain ⟨b1, b2, b4, b8⟩ := flag_bits hx.flags.1 hx.flags.2
  have hqlt := (Ob2.blk h).lt
  have hne : ¬ w.heap.size = g := by omega
  have hkb := (Blk.new w (sgb sq ak f wi A n c) 25)
  have t8 : (f / 8 % 2 * 8 != 0) = false := by rw [hr]; rfl
  obtain ⟨sy, hsy⟩ : ∃ sy, (f % 2 != 0) = sy := ⟨_, rfl⟩
  obtain ⟨ac, hac⟩ : ∃ ac, (f / 2 % 2 * 2 != 0) = ac := ⟨_, rfl⟩
  obtain ⟨ta, hta⟩ : ∃ ta, (ak == x.first) = ta := ⟨_, rfl⟩
  obtain ⟨tp, htp⟩ : ∃ tp, (x.top == x.first) = tp := ⟨_, rfl⟩
  have Hsy : Hid (Sg.syn ⟨sq, ak, f, wi, ds⟩ = sy) := Lib.hid (by rw [← hsy]; exact (sg_bits' f).1.symm)
  have Hac : Hid (Sg.ac ⟨sq, ak, f, wi, ds⟩ = ac) := Lib.hid (by rw [← hac]; exact (sg_bits' f).2.symm)
  have Hrs : Hid (Sg.rs ⟨sq, ak, f, wi, ds⟩ = false) := Lib.hid (by simp [Sg.rs, hr])
  have HMB : Hid (s.st ≤ 3 → s.mineB ⟨sq, ak, f, wi, ds⟩ = (ac && ta && tp)) := Lib.hid (fun h3 => by
    rw [mine_eq tie hok h3, Hac.out, ← hta, ← htp])
  have HT := Lib.hid tie
  have HST : Hid (x.st = s.st) := Lib.hid tie.st
  have HX := Lib.hid hx
  have HOK := Lib.hid hok
  have HS5 := Lib.hid hs5
  have HM := Lib.hid hm
  have HLO : Hid (s.out.length ≤ 64 ∧ s.inn.length ≤ 64) := Lib.hid ⟨by rw [s.out_len]; exact hok.room, by rw [s.inn_len]; exact hok.rroom⟩
  have HLN : Hid (ds.length = n) := Lib.hid hd.len
  have hn32 : n ≤ 32 := by have h1 := hx.len; have h2 := hd.len; dsimp only at h1; omega
  have hf01 := hx.flags
  dsimp only at hf01
  obtain ⟨S', hS'⟩ : ∃ S', s.cameS ⟨sq, ak, f, wi, ds⟩ = S' := ⟨_, rfl⟩
  rw [hS']
  have HE := Lib.hid hS'
  have HSQ := Lib.hid hx.seq
  clear h he hd hx hok hs5 hr hS' hm tie
  go_enter Try.func52, Try.ntmps52
  go_wp2_with fail
  refine (HCK.out _).mono ?_
  rintro e w1 ⟨rfl, hbs⟩
  have hbb : Below w.heap.size w w1 := ((Below.refl w.heap.size w).alloc (Nat.le_refl _) (.cells (sgb sq ak f wi A n c) 25)).trans (hbs.mono (by simp))
  have HB1 := Lib.hid hbb
  have hc : ∀ j, w1.cell? ⟨g, j, none⟩ = (ecells x vo vi)[j]? := (Ob2.blk (HGB.out w1 hbb)).cell
  have hk : ∀ j, w1.cell? ⟨w.heap.size, j, none⟩ = (sgb sq ak f wi A n c)[j]? := fun j => (hbs.cell (p := ⟨w.heap.size, j, none⟩) (by simp)).trans (hkb.cell j)
  have hlt := (Ob2.blk (HGB.out w1 hbb)).lt
  have hlk : w.heap.size < w1.heap.size := by have := hbs.size; simp at this; omega
  have HP1 := Lib.hid (HINI.out w1 hbb hk hlk)
  dsimp only [ecells, sgb] at hc hk
  clear hbs hbb hkb
  go_wp2_with fail
  go_quiet (fail)
  obtain ⟨W2, hWW2⟩ : ∃ W, W = w1.drewN nq := ⟨_, rfl⟩
  rw [← hWW2]
  have HPW2 : Hid (EPos w B g vo vi (sgb sq ak f wi A n c) W2 x vo vi s.out s.inn) := Lib.hid (by rw [hWW2]; exact HP1.out.drewN _)
  clear hWW2 hc hk hlt hlk
  have hc := HPW2.out.p.o.blk.cell
  have hk := HPW2.out.p.k
  have hlt := HPW2.out.p.o.blk.lt
  have hlk := HPW2.out.p.s
  have hfz := HPW2.out.p.o.blk.free
  dsimp only [ecells, sgb] at hc hk
  have HS4 : Hid (s.st = 1) := Lib.hid hst3
  have e1 : (x.st == 1) = true := by rw [HST.out, HS4.out]; rfl
  have e2 : (x.st == 2) = false := by rw [HST.out, HS4.out]; rfl
  have e3 : (x.st == 3) = false := by rw [HST.out, HS4.out]; rfl
  have e4 : (x.st == 4) = false := by rw [HST.out, HS4.out]; rfl
  clear hst3 d2 d3
  cases sy with
  | false =>
    have HE1 : Hid (S' = s) := Lib.hid (by rw [← HE.out]; simp [Sm.cameS, Hrs.out, Hsy.out, Hac.out, HS4.out])
    go_wp2_with fail
    go_quiet (fail)
    obtain ⟨W3, hWW3⟩ : ∃ W, W = W2.drewN nq := ⟨_, rfl⟩
    rw [← hWW3]
    have HPW3 : Hid (EPos w B g vo vi (sgb sq ak f wi A n c) W3 x vo vi s.out s.inn) := Lib.hid (by rw [hWW3]; exact HPW2.out.drewN _)
    clear hWW3 hc hk hlt hlk hfz
    have hc := HPW3.out.p.o.blk.cell
    have hk := HPW3.out.p.k
    have hlt := HPW3.out.p.o.blk.lt
    have hlk := HPW3.out.p.s
    have hfz := HPW3.out.p.o.blk.free
    dsimp only [ecells, sgb] at hc hk
    go_wp2_with fail
    go_quiet (fail)
    obtain ⟨W4, hWW4⟩ : ∃ W, W = W3.drewN nq := ⟨_, rfl⟩
    rw [← hWW4]
    have HPW4 : Hid (EPos w B g vo vi (sgb sq ak f wi A n c) W4 x vo vi s.out s.inn) := Lib.hid (by rw [hWW4]; exact HPW3.out.drewN _)
    clear hWW4 hc hk hlt hlk hfz
    have hc := HPW4.out.p.o.blk.cell
    have hk := HPW4.out.p.k
    have hlt := HPW4.out.p.o.blk.lt
    have hlk := HPW4.out.p.s
    have hfz := HPW4.out.p.o.blk.free
    dsimp only [ecells, sgb] at hc hk
    go_wp2_with fail
    go_quiet (fail)
    obtain ⟨W5, hWW5⟩ : ∃ W, W = W4.drewN nq := ⟨_, rfl⟩
    rw [← hWW5]
    have HPW5 : Hid (EPos w B g vo vi (sgb sq ak f wi A n c) W5 x vo vi s.out s.inn) := Lib.hid (by rw [hWW5]; exact HPW4.out.drewN _)
    clear hWW5 hc hk hlt hlk hfz
    have hc := HPW5.out.p.o.blk.cell
    have hk := HPW5.out.p.k
    have hlt := HPW5.out.p.o.blk.lt
    have hlk := HPW5.out.p.s
    have hfz := HPW5.out.p.o.blk.free
    dsimp only [ecells, sgb] at hc hk
    go_wp2
    go_ret
    exact ⟨rfl, by rw [HE1.out]; exact ⟨x, HT.out, HPW5.out.p.go⟩⟩
  | true =>
    cases ac with
    | true =>
      have HE1 : Hid (S' = s) := Lib.hid (by rw [← HE.out]; simp [Sm.cameS, Hrs.out, Hsy.out, Hac.out, HS4.out])
      go_wp2_with fail
      go_quiet (fail)
      obtain ⟨W3, hWW3⟩ : ∃ W, W = W2.drewN nq := ⟨_, rfl⟩
      rw [← hWW3]
      have HPW3 : Hid (EPos w B g vo vi (sgb sq ak f wi A n c) W3 x vo vi s.out s.inn) := Lib.hid (by rw [hWW3]; exact HPW2.out.drewN _)
      clear hWW3 hc hk hlt hlk hfz
      have hc := HPW3.out.p.o.blk.cell
      have hk := HPW3.out.p.k
      have hlt := HPW3.out.p.o.blk.lt
      have hlk := HPW3.out.p.s
      have hfz := HPW3.out.p.o.blk.free
      dsimp only [ecells, sgb] at hc hk
      go_wp2_with fail
      go_quiet (fail)
      obtain ⟨W4, hWW4⟩ : ∃ W, W = W3.drewN nq := ⟨_, rfl⟩
      rw [← hWW4]
      have HPW4 : Hid (EPos w B g vo vi (sgb sq ak f wi A n c) W4 x vo vi s.out s.inn) := Lib.hid (by rw [hWW4]; exact HPW3.out.drewN _)
      clear hWW4 hc hk hlt hlk hfz
      have hc := HPW4.out.p.o.blk.cell
      have hk := HPW4.out.p.k
      have hlt := HPW4.out.p.o.blk.lt
      have hlk := HPW4.out.p.s
      have hfz := HPW4.out.p.o.blk.free
      dsimp only [ecells, sgb] at hc hk
      go_wp2_with fail
      go_quiet (fail)
      obtain ⟨W5, hWW5⟩ : ∃ W, W = W4.drewN nq := ⟨_, rfl⟩
      rw [← hWW5]
      have HPW5 : Hid (EPos w B g vo vi (sgb sq ak f wi A n c) W5 x vo vi s.out s.inn) := Lib.hid (by rw [hWW5]; exact HPW4.out.drewN _)
      clear hWW5 hc hk hlt hlk hfz
      have hc := HPW5.out.p.o.blk.cell
      have hk := HPW5.out.p.k
      have hlt := HPW5.out.p.o.blk.lt
      have hlk := HPW5.out.p.s
      have hfz := HPW5.out.p.o.blk.free
      dsimp only [ecells, sgb] at hc hk
      go_wp2
      go_ret
      exact ⟨rfl, by rw [HE1.out]; exact ⟨x, HT.out, HPW5.out.p.go⟩⟩
    | false =>
      have HE1 : Hid (S' = { s with st := 3, irs := sq, peer := wi }) := Lib.hid (by rw [← HE.out]; simp [Sm.cameS, Hrs.out, Hsy.out, Hac.out, HS4.out])
      have HX1 : Hid (EPos w B g vo vi (sgb sq ak f wi A n c) (((W2.setCell ⟨g, 0, none⟩ (.int .i64 3)).setCell ⟨g, 5, none⟩ (.int .u32 ((sq + 1) % 4294967296))).setCell ⟨g, 8, none⟩ (.int .i64 wi)).drew { x with st := 3, rcv := (sq + 1) % 4294967296, peer := wi } vo vi s.out s.inn) := Lib.hid
        (((HPW2.out.set1 (x' := { x with st := 3 }) 0 (.int .i64 3) (by simp [ecells])).set1 (x' := { x with st := 3, rcv := (sq + 1) % 4294967296 }) 5 (.int .u32 ((sq + 1) % 4294967296)) (by simp [ecells])).set1 (x' := { x with st := 3, rcv := (sq + 1) % 4294967296, peer := wi }) 8 (.int .i64 wi) (by simp [ecells])).drew
      have hwr : IntKind.u32.wrap (sq + 1) = (sq + 1) % 4294967296 := wrap_u32 _
      go_wp2_with fail
      go_region
      all_goals
        go_wp2
        go_ret
        exact ⟨rfl, by rw [HE1.out]; exact ⟨_, tie_heard HT.out HOK.out HS4.out sq wi, HX1.out.p.go⟩⟩
set_option maxHeartbeats 8000000 in
set_option maxRecDepth 100000 in
theorem ecome_on2 (h : ESt w B g x vo vi s.out s.inn) (tie : Tie s x) (hB : B ≤ w.heap.size) (sq ak f wi : Int) (ds : List Int) (hx : Sg.Fine ⟨sq, ak, f, wi, ds⟩) (A : Option Addr) (n c : Nat) (hd : Far w g vo vi A n ds) (hnc : n ≤ c) (hcm : c ≤ 9223372036854775807) (he : checkI f wi n = 0) (hok : s.Ok m) (hm : m ≤ 1000) (hs5 : s.st ≠ 5) (hr : f / 8 % 2 = 0) (hst3 : s.st = 2) :
    Calls Try.prog 52 #[.pointer (some ⟨g, 0, none⟩), .agg #[.int .u32 sq, .int .u32 ak, .int .i64 f, .int .i64 wi, .slice A n c]] w (ESRet 0 w B g vo vi (s.cameS ⟨sq, ak, f, wi, ds⟩)) := by
  have HGB := Lib.hid (fun w' (hb : Below w.heap.size w w') => Ob2.grow h hb)
  have HCK := Lib.hid (fun W => check_any sq ak f wi A n c W)
  rw [he] at HCK
  have HRB := Lib.hid (fun w' v1 v2 (ha : At2 w g vo vi w' v1 v2) => hd.at ha)
  have HINI := Lib.hid (fun w' (hb : Below w.heap.size w w') hk hs => EPos.init (sb := sgb sq ak f wi A n c) (W := w') h hb hk hs)
  have d2 : (x.st == 0) = false := by rw [beq_eq_false_iff_ne, tie.st]; have := hok.st0; omega
  have d3 : (x.st == 5) = false := by rw [tie.st]; simpa using hs5
  obtain ⟨b1, b2, b4, b8⟩ := flag_bits hx.flags.1 hx.flags.2
  have hqlt := (Ob2.blk h).lt
  have hne : ¬ w.heap.size = g := by omega
  have hkb := (Blk.new w (sgb sq ak f wi A n c) 25)
  have t8 : (f / 8 % 2 * 8 != 0) = false := by rw [hr]; rfl
  obtain ⟨sy, hsy⟩ : ∃ sy, (f % 2 != 0) = sy := ⟨_, rfl⟩
  obtain ⟨ac, hac⟩ : ∃ ac, (f / 2 % 2 * 2 != 0) = ac := ⟨_, rfl⟩
  obtain ⟨ta, hta⟩ : ∃ ta, (ak == x.first) = ta := ⟨_, rfl⟩
  obtain ⟨tp, htp⟩ : ∃ tp, (x.top == x.first) = tp := ⟨_, rfl⟩
  have Hsy : Hid (Sg.syn ⟨sq, ak, f, wi, ds⟩ = sy) := Lib.hid (by rw [← hsy]; exact (sg_bits' f).1.symm)
  have Hac : Hid (Sg.ac ⟨sq, ak, f, wi, ds⟩ = ac) := Lib.hid (by rw [← hac]; exact (sg_bits' f).2.symm)
  have Hrs : Hid (Sg.rs ⟨sq, ak, f, wi, ds⟩ = false) := Lib.hid (by simp [Sg.rs, hr])
  have HMB : Hid (s.st ≤ 3 → s.mineB ⟨sq, ak, f, wi, ds⟩ = (ac && ta && tp)) := Lib.hid (fun h3 => by
    rw [mine_eq tie hok h3, Hac.out, ← hta, ← htp])
  have HT := Lib.hid tie
  have HST : Hid (x.st = s.st) := Lib.hid tie.st
  have HX := Lib.hid hx
  have HOK := Lib.hid hok
  have HS5 := Lib.hid hs5
  have HM := Lib.hid hm
  have HLO : Hid (s.out.length ≤ 64 ∧ s.inn.length ≤ 64) := Lib.hid ⟨by rw [s.out_len]; exact hok.room, by rw [s.inn_len]; exact hok.rroom⟩
  have HLN : Hid (ds.length = n) := Lib.hid hd.len
  have hn32 : n ≤ 32 := by have h1 := hx.len; have h2 := hd.len; dsimp only at h1; omega
  have hf01 := hx.flags
  dsimp only at hf01
  obtain ⟨S', hS'⟩ : ∃ S', s.cameS ⟨sq, ak, f, wi, ds⟩ = S' := ⟨_, rfl⟩
  rw [hS']
  have HE := Lib.hid hS'
  have HSQ := Lib.hid hx.seq
  clear h he hd hx hok hs5 hr hS' hm tie
  go_enter Try.func52, Try.ntmps52
  go_wp2_with fail
  refine (HCK.out _).mono ?_
  rintro e w1 ⟨rfl, hbs⟩
  have hbb : Below w.heap.size w w1 := ((Below.refl w.heap.size w).alloc (Nat.le_refl _) (.cells (sgb sq ak f wi A n c) 25)).trans (hbs.mono (by simp))
  have HB1 := Lib.hid hbb
  have hc : ∀ j, w1.cell? ⟨g, j, none⟩ = (ecells x vo vi)[j]? := (Ob2.blk (HGB.out w1 hbb)).cell
  have hk : ∀ j, w1.cell? ⟨w.heap.size, j, none⟩ = (sgb sq ak f wi A n c)[j]? := fun j => (hbs.cell (p := ⟨w.heap.size, j, none⟩) (by simp)).trans (hkb.cell j)
  have hlt := (Ob2.blk (HGB.out w1 hbb)).lt
  have hlk : w.heap.size < w1.heap.size := by have := hbs.size; simp at this; omega
  have HP1 := Lib.hid (HINI.out w1 hbb hk hlk)
  dsimp only [ecells, sgb] at hc hk
  clear hbs hbb hkb
  go_wp2_with fail
  go_quiet (fail)
  obtain ⟨W2, hWW2⟩ : ∃ W, W = w1.drewN nq := ⟨_, rfl⟩
  rw [← hWW2]
  have HPW2 : Hid (EPos w B g vo vi (sgb sq ak f wi A n c) W2 x vo vi s.out s.inn) := Lib.hid (by rw [hWW2]; exact HP1.out.drewN _)
  clear hWW2 hc hk hlt hlk
  have hc := HPW2.out.p.o.blk.cell
  have hk := HPW2.out.p.k
  have hlt := HPW2.out.p.o.blk.lt
  have hlk := HPW2.out.p.s
  have hfz := HPW2.out.p.o.blk.free
  dsimp only [ecells, sgb] at hc hk
  have HS4 : Hid (s.st = 2) := Lib.hid hst3
  have e1 : (x.st == 1) = false := by rw [HST.out, HS4.out]; rfl
  have e2 : (x.st == 2) = true := by rw [HST.out, HS4.out]; rfl
  have e3 : (x.st == 3) = false := by rw [HST.out, HS4.out]; rfl
  have e4 : (x.st == 4) = false := by rw [HST.out, HS4.out]; rfl
  clear hst3 d2 d3
  cases sy with
  | false =>
    have HE1 : Hid (S' = s) := Lib.hid (by have h3 := HMB.out (by rw [HS4.out]; decide); rw [← HE.out]; simp [Sm.cameS, Hrs.out, Hsy.out, Hac.out, HS4.out, h3])
    go_wp2_with fail
    go_quiet (fail)
    obtain ⟨W3, hWW3⟩ : ∃ W, W = W2.drewN nq := ⟨_, rfl⟩
    rw [← hWW3]
    have HPW3 : Hid (EPos w B g vo vi (sgb sq ak f wi A n c) W3 x vo vi s.out s.inn) := Lib.hid (by rw [hWW3]; exact HPW2.out.drewN _)
    clear hWW3 hc hk hlt hlk hfz
    have hc := HPW3.out.p.o.blk.cell
    have hk := HPW3.out.p.k
    have hlt := HPW3.out.p.o.blk.lt
    have hlk := HPW3.out.p.s
    have hfz := HPW3.out.p.o.blk.free
    dsimp only [ecells, sgb] at hc hk
    go_wp2_with fail
    go_quiet (fail)
    obtain ⟨W4, hWW4⟩ : ∃ W, W = W3.drewN nq := ⟨_, rfl⟩
    rw [← hWW4]
    have HPW4 : Hid (EPos w B g vo vi (sgb sq ak f wi A n c) W4 x vo vi s.out s.inn) := Lib.hid (by rw [hWW4]; exact HPW3.out.drewN _)
    clear hWW4 hc hk hlt hlk hfz
    have hc := HPW4.out.p.o.blk.cell
    have hk := HPW4.out.p.k
    have hlt := HPW4.out.p.o.blk.lt
    have hlk := HPW4.out.p.s
    have hfz := HPW4.out.p.o.blk.free
    dsimp only [ecells, sgb] at hc hk
    go_wp2_with fail
    go_quiet (fail)
    obtain ⟨W5, hWW5⟩ : ∃ W, W = W4.drewN nq := ⟨_, rfl⟩
    rw [← hWW5]
    have HPW5 : Hid (EPos w B g vo vi (sgb sq ak f wi A n c) W5 x vo vi s.out s.inn) := Lib.hid (by rw [hWW5]; exact HPW4.out.drewN _)
    clear hWW5 hc hk hlt hlk hfz
    have hc := HPW5.out.p.o.blk.cell
    have hk := HPW5.out.p.k
    have hlt := HPW5.out.p.o.blk.lt
    have hlk := HPW5.out.p.s
    have hfz := HPW5.out.p.o.blk.free
    dsimp only [ecells, sgb] at hc hk
    go_wp2
    go_ret
    exact ⟨rfl, by rw [HE1.out]; exact ⟨x, HT.out, HPW5.out.p.go⟩⟩
  | true =>
    cases ac with
    | false =>
      have HE1 : Hid (S' = s) := Lib.hid (by have h3 := HMB.out (by rw [HS4.out]; decide); rw [← HE.out]; simp [Sm.cameS, Hrs.out, Hsy.out, Hac.out, HS4.out, h3])
      go_wp2_with fail
      go_quiet (fail)
      obtain ⟨W3, hWW3⟩ : ∃ W, W = W2.drewN nq := ⟨_, rfl⟩
      rw [← hWW3]
      have HPW3 : Hid (EPos w B g vo vi (sgb sq ak f wi A n c) W3 x vo vi s.out s.inn) := Lib.hid (by rw [hWW3]; exact HPW2.out.drewN _)
      clear hWW3 hc hk hlt hlk hfz
      have hc := HPW3.out.p.o.blk.cell
      have hk := HPW3.out.p.k
      have hlt := HPW3.out.p.o.blk.lt
      have hlk := HPW3.out.p.s
      have hfz := HPW3.out.p.o.blk.free
      dsimp only [ecells, sgb] at hc hk
      go_wp2_with fail
      go_quiet (fail)
      obtain ⟨W4, hWW4⟩ : ∃ W, W = W3.drewN nq := ⟨_, rfl⟩
      rw [← hWW4]
      have HPW4 : Hid (EPos w B g vo vi (sgb sq ak f wi A n c) W4 x vo vi s.out s.inn) := Lib.hid (by rw [hWW4]; exact HPW3.out.drewN _)
      clear hWW4 hc hk hlt hlk hfz
      have hc := HPW4.out.p.o.blk.cell
      have hk := HPW4.out.p.k
      have hlt := HPW4.out.p.o.blk.lt
      have hlk := HPW4.out.p.s
      have hfz := HPW4.out.p.o.blk.free
      dsimp only [ecells, sgb] at hc hk
      go_wp2_with fail
      go_quiet (fail)
      obtain ⟨W5, hWW5⟩ : ∃ W, W = W4.drewN nq := ⟨_, rfl⟩
      rw [← hWW5]
      have HPW5 : Hid (EPos w B g vo vi (sgb sq ak f wi A n c) W5 x vo vi s.out s.inn) := Lib.hid (by rw [hWW5]; exact HPW4.out.drewN _)
      clear hWW5 hc hk hlt hlk hfz
      have hc := HPW5.out.p.o.blk.cell
      have hk := HPW5.out.p.k
      have hlt := HPW5.out.p.o.blk.lt
      have hlk := HPW5.out.p.s
      have hfz := HPW5.out.p.o.blk.free
      dsimp only [ecells, sgb] at hc hk
      go_wp2
      go_ret
      exact ⟨rfl, by rw [HE1.out]; exact ⟨x, HT.out, HPW5.out.p.go⟩⟩
    | true =>
      cases ta with
      | false =>
        have HE1 : Hid (S' = s) := Lib.hid (by have h3 := HMB.out (by rw [HS4.out]; decide); rw [← HE.out]; simp [Sm.cameS, Hrs.out, Hsy.out, Hac.out, HS4.out, h3])
        go_wp2_with fail
        go_quiet (fail)
        obtain ⟨W3, hWW3⟩ : ∃ W, W = W2.drewN nq := ⟨_, rfl⟩
        rw [← hWW3]
        have HPW3 : Hid (EPos w B g vo vi (sgb sq ak f wi A n c) W3 x vo vi s.out s.inn) := Lib.hid (by rw [hWW3]; exact HPW2.out.drewN _)
        clear hWW3 hc hk hlt hlk hfz
        have hc := HPW3.out.p.o.blk.cell
        have hk := HPW3.out.p.k
        have hlt := HPW3.out.p.o.blk.lt
        have hlk := HPW3.out.p.s
        have hfz := HPW3.out.p.o.blk.free
        dsimp only [ecells, sgb] at hc hk
        go_wp2_with fail
        go_quiet (fail)
        obtain ⟨W4, hWW4⟩ : ∃ W, W = W3.drewN nq := ⟨_, rfl⟩
        rw [← hWW4]
        have HPW4 : Hid (EPos w B g vo vi (sgb sq ak f wi A n c) W4 x vo vi s.out s.inn) := Lib.hid (by rw [hWW4]; exact HPW3.out.drewN _)
        clear hWW4 hc hk hlt hlk hfz
        have hc := HPW4.out.p.o.blk.cell
        have hk := HPW4.out.p.k
        have hlt := HPW4.out.p.o.blk.lt
        have hlk := HPW4.out.p.s
        have hfz := HPW4.out.p.o.blk.free
        dsimp only [ecells, sgb] at hc hk
        go_wp2_with fail
        go_quiet (fail)
        obtain ⟨W5, hWW5⟩ : ∃ W, W = W4.drewN nq := ⟨_, rfl⟩
        rw [← hWW5]
        have HPW5 : Hid (EPos w B g vo vi (sgb sq ak f wi A n c) W5 x vo vi s.out s.inn) := Lib.hid (by rw [hWW5]; exact HPW4.out.drewN _)
        clear hWW5 hc hk hlt hlk hfz
        have hc := HPW5.out.p.o.blk.cell
        have hk := HPW5.out.p.k
        have hlt := HPW5.out.p.o.blk.lt
        have hlk := HPW5.out.p.s
        have hfz := HPW5.out.p.o.blk.free
        dsimp only [ecells, sgb] at hc hk
        go_wp2
        go_ret
        exact ⟨rfl, by rw [HE1.out]; exact ⟨x, HT.out, HPW5.out.p.go⟩⟩
      | true =>
        cases tp with
        | false =>
          have HE1 : Hid (S' = s) := Lib.hid (by have h3 := HMB.out (by rw [HS4.out]; decide); rw [← HE.out]; simp [Sm.cameS, Hrs.out, Hsy.out, Hac.out, HS4.out, h3])
          go_wp2_with fail
          go_quiet (fail)
          obtain ⟨W3, hWW3⟩ : ∃ W, W = W2.drewN nq := ⟨_, rfl⟩
          rw [← hWW3]
          have HPW3 : Hid (EPos w B g vo vi (sgb sq ak f wi A n c) W3 x vo vi s.out s.inn) := Lib.hid (by rw [hWW3]; exact HPW2.out.drewN _)
          clear hWW3 hc hk hlt hlk hfz
          have hc := HPW3.out.p.o.blk.cell
          have hk := HPW3.out.p.k
          have hlt := HPW3.out.p.o.blk.lt
          have hlk := HPW3.out.p.s
          have hfz := HPW3.out.p.o.blk.free
          dsimp only [ecells, sgb] at hc hk
          go_wp2_with fail
          go_quiet (fail)
          obtain ⟨W4, hWW4⟩ : ∃ W, W = W3.drewN nq := ⟨_, rfl⟩
          rw [← hWW4]
          have HPW4 : Hid (EPos w B g vo vi (sgb sq ak f wi A n c) W4 x vo vi s.out s.inn) := Lib.hid (by rw [hWW4]; exact HPW3.out.drewN _)
          clear hWW4 hc hk hlt hlk hfz
          have hc := HPW4.out.p.o.blk.cell
          have hk := HPW4.out.p.k
          have hlt := HPW4.out.p.o.blk.lt
          have hlk := HPW4.out.p.s
          have hfz := HPW4.out.p.o.blk.free
          dsimp only [ecells, sgb] at hc hk
          go_wp2_with fail
          go_quiet (fail)
          obtain ⟨W5, hWW5⟩ : ∃ W, W = W4.drewN nq := ⟨_, rfl⟩
          rw [← hWW5]
          have HPW5 : Hid (EPos w B g vo vi (sgb sq ak f wi A n c) W5 x vo vi s.out s.inn) := Lib.hid (by rw [hWW5]; exact HPW4.out.drewN _)
          clear hWW5 hc hk hlt hlk hfz
          have hc := HPW5.out.p.o.blk.cell
          have hk := HPW5.out.p.k
          have hlt := HPW5.out.p.o.blk.lt
          have hlk := HPW5.out.p.s
          have hfz := HPW5.out.p.o.blk.free
          dsimp only [ecells, sgb] at hc hk
          go_wp2
          go_ret
          exact ⟨rfl, by rw [HE1.out]; exact ⟨x, HT.out, HPW5.out.p.go⟩⟩
        | true =>
          have HE1 : Hid (S' = Sm.openS { s with irs := sq, due := true } wi) := Lib.hid (by have h3 := HMB.out (by rw [HS4.out]; decide); rw [← HE.out]; simp [Sm.cameS, Hrs.out, Hsy.out, Hac.out, HS4.out, h3])
          have HTOP1 : Hid (s.top = 1) := Lib.hid (by
            have h3 := HMB.out (by rw [HS4.out]; decide)
            unfold Sm.mineB at h3
            simp at h3
            exact h3.2)
          have hwr : IntKind.u32.wrap (sq + 1) = (sq + 1) % 4294967296 := wrap_u32 _
          go_wp2_with fail
          go_quiet (fail)
          obtain ⟨W3, hWW3⟩ : ∃ W, W = W2.drewN nq := ⟨_, rfl⟩
          rw [← hWW3]
          have HPW3 : Hid (EPos w B g vo vi (sgb sq ak f wi A n c) W3 x vo vi s.out s.inn) := Lib.hid (by rw [hWW3]; exact HPW2.out.drewN _)
          clear hWW3 hc hk hlt hlk hfz
          have hc := HPW3.out.p.o.blk.cell
          have hk := HPW3.out.p.k
          have hlt := HPW3.out.p.o.blk.lt
          have hlk := HPW3.out.p.s
          have hfz := HPW3.out.p.o.blk.free
          dsimp only [ecells, sgb] at hc hk
          have HX1 : Hid (EPos w B g vo vi (sgb sq ak f wi A n c) ((((W3.setCell ⟨g, 0, none⟩ (.int .i64 4)).setCell ⟨g, 5, none⟩ (.int .u32 ((sq + 1) % 4294967296))).setCell ⟨g, 8, none⟩ (.int .i64 wi)).setCell ⟨g, 11, none⟩ (.bool true)).drew { x with st := 4, rcv := (sq + 1) % 4294967296, peer := wi, due := true } vo vi s.out s.inn) := Lib.hid
            ((((HPW3.out.set1 (x' := { x with st := 4 }) 0 (.int .i64 4) (by simp [ecells])).set1 (x' := { x with st := 4, rcv := (sq + 1) % 4294967296 }) 5 (.int .u32 ((sq + 1) % 4294967296)) (by simp [ecells])).set1 (x' := { x with st := 4, rcv := (sq + 1) % 4294967296, peer := wi }) 8 (.int .i64 wi) (by simp [ecells])).set1 (x' := { x with st := 4, rcv := (sq + 1) % 4294967296, peer := wi, due := true }) 11 (.bool true) (by simp [ecells])).drew
          go_wp2_with fail
          go_region
          all_goals
            obtain ⟨W4, hWW4⟩ : ∃ W, W = ((((W3.setCell ⟨g, 0, none⟩ (.int .i64 4)).setCell ⟨g, 5, none⟩ (.int .u32 ((sq + 1) % 4294967296))).setCell ⟨g, 8, none⟩ (.int .i64 wi)).setCell ⟨g, 11, none⟩ (.bool true)).drew := ⟨_, rfl⟩
            rw [← hWW4]
            have HPW4 : Hid (EPos w B g vo vi (sgb sq ak f wi A n c) W4 { x with st := 4, rcv := (sq + 1) % 4294967296, peer := wi, due := true } vo vi s.out s.inn) := Lib.hid (by rw [hWW4]; exact HX1.out)
            clear hWW4 hc hk hlt hlk hfz
            have hc := HPW4.out.p.o.blk.cell
            have hk := HPW4.out.p.k
            have hlt := HPW4.out.p.o.blk.lt
            have hlk := HPW4.out.p.s
            have hfz := HPW4.out.p.o.blk.free
            dsimp only [ecells, sgb] at hc hk
            have HX2 : Hid (EPos w B g vo vi (sgb sq ak f wi A n c) (((((W4.setCell ⟨g, 1, none⟩ (.int .u32 x.first)).setCell ⟨g, 2, none⟩ (.int .u32 x.first)).setCell ⟨g, 3, none⟩ (.int .u32 x.first)).setCell ⟨g, 12, none⟩ (.int .i64 0)).setCell ⟨g, 13, none⟩ (.int .i64 0)).drew { x with st := 4, rcv := (sq + 1) % 4294967296, peer := wi, due := true, una := x.first, nxt := x.first, top := x.first, wait := 0, tries := 0 } vo vi s.out s.inn) := Lib.hid
              (((((HPW4.out.set1 (x' := { { x with st := 4, rcv := (sq + 1) % 4294967296, peer := wi, due := true } with una := x.first }) 1 (.int .u32 x.first) (by simp [ecells])).set1 (x' := { { x with st := 4, rcv := (sq + 1) % 4294967296, peer := wi, due := true } with una := x.first, nxt := x.first }) 2 (.int .u32 x.first) (by simp [ecells])).set1 (x' := { { x with st := 4, rcv := (sq + 1) % 4294967296, peer := wi, due := true } with una := x.first, nxt := x.first, top := x.first }) 3 (.int .u32 x.first) (by simp [ecells])).set1 (x' := { { x with st := 4, rcv := (sq + 1) % 4294967296, peer := wi, due := true } with una := x.first, nxt := x.first, top := x.first, wait := 0 }) 12 (.int .i64 0) (by simp [ecells])).set1 (x' := { x with st := 4, rcv := (sq + 1) % 4294967296, peer := wi, due := true, una := x.first, nxt := x.first, top := x.first, wait := 0, tries := 0 }) 13 (.int .i64 0) (by simp [ecells])).drew
            clear HX1
            go_wp2_with fail
            go_region
            all_goals
              go_wp2
              go_ret
              exact ⟨rfl, by rw [HE1.out]; exact ⟨_, tie_open2 HT.out HOK.out (by rw [HS4.out]; decide) HTOP1.out sq wi, by rw [← open_rows HOK.out (by rw [HS4.out]; decide)]; exact HX2.out.p.go⟩⟩
set_option maxHeartbeats 8000000 in
set_option maxRecDepth 100000 in
theorem ecome_on3 (h : ESt w B g x vo vi s.out s.inn) (tie : Tie s x) (hB : B ≤ w.heap.size) (sq ak f wi : Int) (ds : List Int) (hx : Sg.Fine ⟨sq, ak, f, wi, ds⟩) (A : Option Addr) (n c : Nat) (hd : Far w g vo vi A n ds) (hnc : n ≤ c) (hcm : c ≤ 9223372036854775807) (he : checkI f wi n = 0) (hok : s.Ok m) (hm : m ≤ 1000) (hs5 : s.st ≠ 5) (hr : f / 8 % 2 = 0) (hst3 : s.st = 3) :
    Calls Try.prog 52 #[.pointer (some ⟨g, 0, none⟩), .agg #[.int .u32 sq, .int .u32 ak, .int .i64 f, .int .i64 wi, .slice A n c]] w (ESRet 0 w B g vo vi (s.cameS ⟨sq, ak, f, wi, ds⟩)) := by
  have HGB := Lib.hid (fun w' (hb : Below w.heap.size w w') => Ob2.grow h hb)
  have HCK := Lib.hid (fun W => check_any sq ak f wi A n c W)
  rw [he] at HCK
  have HRB := Lib.hid (fun w' v1 v2 (ha : At2 w g vo vi w' v1 v2) => hd.at ha)
  have HINI := Lib.hid (fun w' (hb : Below w.heap.size w w') hk hs => EPos.init (sb := sgb sq ak f wi A n c) (W := w') h hb hk hs)
  have d2 : (x.st == 0) = false := by rw [beq_eq_false_iff_ne, tie.st]; have := hok.st0; omega
  have d3 : (x.st == 5) = false := by rw [tie.st]; simpa using hs5
  obtain ⟨b1, b2, b4, b8⟩ := flag_bits hx.flags.1 hx.flags.2
  have hqlt := (Ob2.blk h).lt
  have hne : ¬ w.heap.size = g := by omega
  have hkb := (Blk.new w (sgb sq ak f wi A n c) 25)
  have t8 : (f / 8 % 2 * 8 != 0) = false := by rw [hr]; rfl
  obtain ⟨sy, hsy⟩ : ∃ sy, (f % 2 != 0) = sy := ⟨_, rfl⟩
  obtain ⟨ac, hac⟩ : ∃ ac, (f / 2 % 2 * 2 != 0) = ac := ⟨_, rfl⟩
  obtain ⟨ta, hta⟩ : ∃ ta, (ak == x.first) = ta := ⟨_, rfl⟩
  obtain ⟨tp, htp⟩ : ∃ tp, (x.top == x.first) = tp := ⟨_, rfl⟩
  have Hsy : Hid (Sg.syn ⟨sq, ak, f, wi, ds⟩ = sy) := Lib.hid (by rw [← hsy]; exact (sg_bits' f).1.symm)
  have Hac : Hid (Sg.ac ⟨sq, ak, f, wi, ds⟩ = ac) := Lib.hid (by rw [← hac]; exact (sg_bits' f).2.symm)
  have Hrs : Hid (Sg.rs ⟨sq, ak, f, wi, ds⟩ = false) := Lib.hid (by simp [Sg.rs, hr])
  have HMB : Hid (s.st ≤ 3 → s.mineB ⟨sq, ak, f, wi, ds⟩ = (ac && ta && tp)) := Lib.hid (fun h3 => by
    rw [mine_eq tie hok h3, Hac.out, ← hta, ← htp])
  have HT := Lib.hid tie
  have HST : Hid (x.st = s.st) := Lib.hid tie.st
  have HX := Lib.hid hx
  have HOK := Lib.hid hok
  have HS5 := Lib.hid hs5
  have HM := Lib.hid hm
  have HLO : Hid (s.out.length ≤ 64 ∧ s.inn.length ≤ 64) := Lib.hid ⟨by rw [s.out_len]; exact hok.room, by rw [s.inn_len]; exact hok.rroom⟩
  have HLN : Hid (ds.length = n) := Lib.hid hd.len
  have hn32 : n ≤ 32 := by have h1 := hx.len; have h2 := hd.len; dsimp only at h1; omega
  have hf01 := hx.flags
  dsimp only at hf01
  obtain ⟨S', hS'⟩ : ∃ S', s.cameS ⟨sq, ak, f, wi, ds⟩ = S' := ⟨_, rfl⟩
  rw [hS']
  have HE := Lib.hid hS'
  have HSQ := Lib.hid hx.seq
  clear h he hd hx hok hs5 hr hS' hm tie
  go_enter Try.func52, Try.ntmps52
  go_wp2_with fail
  refine (HCK.out _).mono ?_
  rintro e w1 ⟨rfl, hbs⟩
  have hbb : Below w.heap.size w w1 := ((Below.refl w.heap.size w).alloc (Nat.le_refl _) (.cells (sgb sq ak f wi A n c) 25)).trans (hbs.mono (by simp))
  have HB1 := Lib.hid hbb
  have hc : ∀ j, w1.cell? ⟨g, j, none⟩ = (ecells x vo vi)[j]? := (Ob2.blk (HGB.out w1 hbb)).cell
  have hk : ∀ j, w1.cell? ⟨w.heap.size, j, none⟩ = (sgb sq ak f wi A n c)[j]? := fun j => (hbs.cell (p := ⟨w.heap.size, j, none⟩) (by simp)).trans (hkb.cell j)
  have hlt := (Ob2.blk (HGB.out w1 hbb)).lt
  have hlk : w.heap.size < w1.heap.size := by have := hbs.size; simp at this; omega
  have HP1 := Lib.hid (HINI.out w1 hbb hk hlk)
  dsimp only [ecells, sgb] at hc hk
  clear hbs hbb hkb
  go_wp2_with fail
  go_quiet (fail)
  obtain ⟨W2, hWW2⟩ : ∃ W, W = w1.drewN nq := ⟨_, rfl⟩
  rw [← hWW2]
  have HPW2 : Hid (EPos w B g vo vi (sgb sq ak f wi A n c) W2 x vo vi s.out s.inn) := Lib.hid (by rw [hWW2]; exact HP1.out.drewN _)
  clear hWW2 hc hk hlt hlk
  have hc := HPW2.out.p.o.blk.cell
  have hk := HPW2.out.p.k
  have hlt := HPW2.out.p.o.blk.lt
  have hlk := HPW2.out.p.s
  have hfz := HPW2.out.p.o.blk.free
  dsimp only [ecells, sgb] at hc hk
  have HS4 : Hid (s.st = 3) := Lib.hid hst3
  have e1 : (x.st == 1) = false := by rw [HST.out, HS4.out]; rfl
  have e2 : (x.st == 2) = false := by rw [HST.out, HS4.out]; rfl
  have e3 : (x.st == 3) = true := by rw [HST.out, HS4.out]; rfl
  have e4 : (x.st == 4) = false := by rw [HST.out, HS4.out]; rfl
  clear hst3 d2 d3
  cases sy with
  | false =>
    cases ac with
    | false =>
      have HE1 : Hid (S' = s) := Lib.hid (by have h3 := HMB.out (by rw [HS4.out]; decide); rw [← HE.out]; simp [Sm.cameS, Hrs.out, Hsy.out, Hac.out, HS4.out, h3])
      go_wp2_with fail
      go_quiet (fail)
      obtain ⟨W3, hWW3⟩ : ∃ W, W = W2.drewN nq := ⟨_, rfl⟩
      rw [← hWW3]
      have HPW3 : Hid (EPos w B g vo vi (sgb sq ak f wi A n c) W3 x vo vi s.out s.inn) := Lib.hid (by rw [hWW3]; exact HPW2.out.drewN _)
      clear hWW3 hc hk hlt hlk hfz
      have hc := HPW3.out.p.o.blk.cell
      have hk := HPW3.out.p.k
      have hlt := HPW3.out.p.o.blk.lt
      have hlk := HPW3.out.p.s
      have hfz := HPW3.out.p.o.blk.free
      dsimp only [ecells, sgb] at hc hk
      go_wp2_with fail
      go_quiet (fail)
      obtain ⟨W4, hWW4⟩ : ∃ W, W = W3.drewN nq := ⟨_, rfl⟩
      rw [← hWW4]
      have HPW4 : Hid (EPos w B g vo vi (sgb sq ak f wi A n c) W4 x vo vi s.out s.inn) := Lib.hid (by rw [hWW4]; exact HPW3.out.drewN _)
      clear hWW4 hc hk hlt hlk hfz
      have hc := HPW4.out.p.o.blk.cell
      have hk := HPW4.out.p.k
      have hlt := HPW4.out.p.o.blk.lt
      have hlk := HPW4.out.p.s
      have hfz := HPW4.out.p.o.blk.free
      dsimp only [ecells, sgb] at hc hk
      go_wp2_with fail
      go_quiet (fail)
      obtain ⟨W5, hWW5⟩ : ∃ W, W = W4.drewN nq := ⟨_, rfl⟩
      rw [← hWW5]
      have HPW5 : Hid (EPos w B g vo vi (sgb sq ak f wi A n c) W5 x vo vi s.out s.inn) := Lib.hid (by rw [hWW5]; exact HPW4.out.drewN _)
      clear hWW5 hc hk hlt hlk hfz
      have hc := HPW5.out.p.o.blk.cell
      have hk := HPW5.out.p.k
      have hlt := HPW5.out.p.o.blk.lt
      have hlk := HPW5.out.p.s
      have hfz := HPW5.out.p.o.blk.free
      dsimp only [ecells, sgb] at hc hk
      go_wp2
      go_ret
      exact ⟨rfl, by rw [HE1.out]; exact ⟨x, HT.out, HPW5.out.p.go⟩⟩
    | true =>
      cases ta with
      | false =>
        have HE1 : Hid (S' = s) := Lib.hid (by have h3 := HMB.out (by rw [HS4.out]; decide); rw [← HE.out]; simp [Sm.cameS, Hrs.out, Hsy.out, Hac.out, HS4.out, h3])
        go_wp2_with fail
        go_quiet (fail)
        obtain ⟨W3, hWW3⟩ : ∃ W, W = W2.drewN nq := ⟨_, rfl⟩
        rw [← hWW3]
        have HPW3 : Hid (EPos w B g vo vi (sgb sq ak f wi A n c) W3 x vo vi s.out s.inn) := Lib.hid (by rw [hWW3]; exact HPW2.out.drewN _)
        clear hWW3 hc hk hlt hlk hfz
        have hc := HPW3.out.p.o.blk.cell
        have hk := HPW3.out.p.k
        have hlt := HPW3.out.p.o.blk.lt
        have hlk := HPW3.out.p.s
        have hfz := HPW3.out.p.o.blk.free
        dsimp only [ecells, sgb] at hc hk
        go_wp2_with fail
        go_quiet (fail)
        obtain ⟨W4, hWW4⟩ : ∃ W, W = W3.drewN nq := ⟨_, rfl⟩
        rw [← hWW4]
        have HPW4 : Hid (EPos w B g vo vi (sgb sq ak f wi A n c) W4 x vo vi s.out s.inn) := Lib.hid (by rw [hWW4]; exact HPW3.out.drewN _)
        clear hWW4 hc hk hlt hlk hfz
        have hc := HPW4.out.p.o.blk.cell
        have hk := HPW4.out.p.k
        have hlt := HPW4.out.p.o.blk.lt
        have hlk := HPW4.out.p.s
        have hfz := HPW4.out.p.o.blk.free
        dsimp only [ecells, sgb] at hc hk
        go_wp2_with fail
        go_quiet (fail)
        obtain ⟨W5, hWW5⟩ : ∃ W, W = W4.drewN nq := ⟨_, rfl⟩
        rw [← hWW5]
        have HPW5 : Hid (EPos w B g vo vi (sgb sq ak f wi A n c) W5 x vo vi s.out s.inn) := Lib.hid (by rw [hWW5]; exact HPW4.out.drewN _)
        clear hWW5 hc hk hlt hlk hfz
        have hc := HPW5.out.p.o.blk.cell
        have hk := HPW5.out.p.k
        have hlt := HPW5.out.p.o.blk.lt
        have hlk := HPW5.out.p.s
        have hfz := HPW5.out.p.o.blk.free
        dsimp only [ecells, sgb] at hc hk
        go_wp2
        go_ret
        exact ⟨rfl, by rw [HE1.out]; exact ⟨x, HT.out, HPW5.out.p.go⟩⟩
      | true =>
        cases tp with
        | false =>
          have HE1 : Hid (S' = s) := Lib.hid (by have h3 := HMB.out (by rw [HS4.out]; decide); rw [← HE.out]; simp [Sm.cameS, Hrs.out, Hsy.out, Hac.out, HS4.out, h3])
          go_wp2_with fail
          go_quiet (fail)
          obtain ⟨W3, hWW3⟩ : ∃ W, W = W2.drewN nq := ⟨_, rfl⟩
          rw [← hWW3]
          have HPW3 : Hid (EPos w B g vo vi (sgb sq ak f wi A n c) W3 x vo vi s.out s.inn) := Lib.hid (by rw [hWW3]; exact HPW2.out.drewN _)
          clear hWW3 hc hk hlt hlk hfz
          have hc := HPW3.out.p.o.blk.cell
          have hk := HPW3.out.p.k
          have hlt := HPW3.out.p.o.blk.lt
          have hlk := HPW3.out.p.s
          have hfz := HPW3.out.p.o.blk.free
          dsimp only [ecells, sgb] at hc hk
          go_wp2_with fail
          go_quiet (fail)
          obtain ⟨W4, hWW4⟩ : ∃ W, W = W3.drewN nq := ⟨_, rfl⟩
          rw [← hWW4]
          have HPW4 : Hid (EPos w B g vo vi (sgb sq ak f wi A n c) W4 x vo vi s.out s.inn) := Lib.hid (by rw [hWW4]; exact HPW3.out.drewN _)
          clear hWW4 hc hk hlt hlk hfz
          have hc := HPW4.out.p.o.blk.cell
          have hk := HPW4.out.p.k
          have hlt := HPW4.out.p.o.blk.lt
          have hlk := HPW4.out.p.s
          have hfz := HPW4.out.p.o.blk.free
          dsimp only [ecells, sgb] at hc hk
          go_wp2_with fail
          go_quiet (fail)
          obtain ⟨W5, hWW5⟩ : ∃ W, W = W4.drewN nq := ⟨_, rfl⟩
          rw [← hWW5]
          have HPW5 : Hid (EPos w B g vo vi (sgb sq ak f wi A n c) W5 x vo vi s.out s.inn) := Lib.hid (by rw [hWW5]; exact HPW4.out.drewN _)
          clear hWW5 hc hk hlt hlk hfz
          have hc := HPW5.out.p.o.blk.cell
          have hk := HPW5.out.p.k
          have hlt := HPW5.out.p.o.blk.lt
          have hlk := HPW5.out.p.s
          have hfz := HPW5.out.p.o.blk.free
          dsimp only [ecells, sgb] at hc hk
          go_wp2
          go_ret
          exact ⟨rfl, by rw [HE1.out]; exact ⟨x, HT.out, HPW5.out.p.go⟩⟩
        | true =>
          have HE1 : Hid (S' = Sm.dataS (s.openS wi) ⟨sq, ak, f, wi, ds⟩) := Lib.hid (by have h3 := HMB.out (by rw [HS4.out]; decide); rw [← HE.out]; simp [Sm.cameS, Hrs.out, Hsy.out, Hac.out, HS4.out, h3])
          have HTOP1 : Hid (s.top = 1) := Lib.hid (by
            have h3 := HMB.out (by rw [HS4.out]; decide)
            unfold Sm.mineB at h3
            simp at h3
            exact h3.2)
          go_wp2_with fail
          go_quiet (fail)
          obtain ⟨W3, hWW3⟩ : ∃ W, W = W2.drewN nq := ⟨_, rfl⟩
          rw [← hWW3]
          have HPW3 : Hid (EPos w B g vo vi (sgb sq ak f wi A n c) W3 x vo vi s.out s.inn) := Lib.hid (by rw [hWW3]; exact HPW2.out.drewN _)
          clear hWW3 hc hk hlt hlk hfz
          have hc := HPW3.out.p.o.blk.cell
          have hk := HPW3.out.p.k
          have hlt := HPW3.out.p.o.blk.lt
          have hlk := HPW3.out.p.s
          have hfz := HPW3.out.p.o.blk.free
          dsimp only [ecells, sgb] at hc hk
          go_wp2_with fail
          go_quiet (fail)
          obtain ⟨W4, hWW4⟩ : ∃ W, W = W3.drewN nq := ⟨_, rfl⟩
          rw [← hWW4]
          have HPW4 : Hid (EPos w B g vo vi (sgb sq ak f wi A n c) W4 x vo vi s.out s.inn) := Lib.hid (by rw [hWW4]; exact HPW3.out.drewN _)
          clear hWW4 hc hk hlt hlk hfz
          have hc := HPW4.out.p.o.blk.cell
          have hk := HPW4.out.p.k
          have hlt := HPW4.out.p.o.blk.lt
          have hlk := HPW4.out.p.s
          have hfz := HPW4.out.p.o.blk.free
          dsimp only [ecells, sgb] at hc hk
          go_wp2_with fail
          go_quiet (fail)
          obtain ⟨W5, hWW5⟩ : ∃ W, W = W4.drewN nq := ⟨_, rfl⟩
          rw [← hWW5]
          have HPW5 : Hid (EPos w B g vo vi (sgb sq ak f wi A n c) W5 x vo vi s.out s.inn) := Lib.hid (by rw [hWW5]; exact HPW4.out.drewN _)
          clear hWW5 hc hk hlt hlk hfz
          have hc := HPW5.out.p.o.blk.cell
          have hk := HPW5.out.p.k
          have hlt := HPW5.out.p.o.blk.lt
          have hlk := HPW5.out.p.s
          have hfz := HPW5.out.p.o.blk.free
          dsimp only [ecells, sgb] at hc hk
          have HX1 : Hid (EPos w B g vo vi (sgb sq ak f wi A n c) ((W5.setCell ⟨g, 0, none⟩ (.int .i64 4)).setCell ⟨g, 8, none⟩ (.int .i64 wi)).drew { x with st := 4, peer := wi } vo vi s.out s.inn) := Lib.hid
            ((HPW5.out.set1 (x' := { x with st := 4 }) 0 (.int .i64 4) (by simp [ecells])).set1 (x' := { x with st := 4, peer := wi }) 8 (.int .i64 wi) (by simp [ecells])).drew
          go_wp2_with fail
          go_region
          all_goals
            obtain ⟨W6, hWW6⟩ : ∃ W, W = ((W5.setCell ⟨g, 0, none⟩ (.int .i64 4)).setCell ⟨g, 8, none⟩ (.int .i64 wi)).drew := ⟨_, rfl⟩
            rw [← hWW6]
            have HPW6 : Hid (EPos w B g vo vi (sgb sq ak f wi A n c) W6 { x with st := 4, peer := wi } vo vi s.out s.inn) := Lib.hid (by rw [hWW6]; exact HX1.out)
            clear hWW6 hc hk hlt hlk hfz
            have hc := HPW6.out.p.o.blk.cell
            have hk := HPW6.out.p.k
            have hlt := HPW6.out.p.o.blk.lt
            have hlk := HPW6.out.p.s
            have hfz := HPW6.out.p.o.blk.free
            dsimp only [ecells, sgb] at hc hk
            have HX2 : Hid (EPos w B g vo vi (sgb sq ak f wi A n c) ((((W6.setCell ⟨g, 1, none⟩ (.int .u32 x.first)).setCell ⟨g, 2, none⟩ (.int .u32 x.first)).setCell ⟨g, 12, none⟩ (.int .i64 0)).setCell ⟨g, 13, none⟩ (.int .i64 0)).drew { x with st := 4, peer := wi, una := x.first, nxt := x.first, wait := 0, tries := 0 } vo vi s.out s.inn) := Lib.hid
              ((((HPW6.out.set1 (x' := { { x with st := 4, peer := wi } with una := x.first }) 1 (.int .u32 x.first) (by simp [ecells])).set1 (x' := { { x with st := 4, peer := wi } with una := x.first, nxt := x.first }) 2 (.int .u32 x.first) (by simp [ecells])).set1 (x' := { { x with st := 4, peer := wi } with una := x.first, nxt := x.first, wait := 0 }) 12 (.int .i64 0) (by simp [ecells])).set1 (x' := { x with st := 4, peer := wi, una := x.first, nxt := x.first, wait := 0, tries := 0 }) 13 (.int .i64 0) (by simp [ecells])).drew
            clear HX1
            go_wp2_with fail
            go_region
            all_goals
              obtain ⟨W9, hW9⟩ : ∃ W, W = ((((W6.setCell ⟨g, 1, none⟩ (.int .u32 x.first)).setCell ⟨g, 2, none⟩ (.int .u32 x.first)).setCell ⟨g, 12, none⟩ (.int .i64 0)).setCell ⟨g, 13, none⟩ (.int .i64 0)).drew := ⟨_, rfl⟩
              rw [← hW9]
              have HP9 : Hid (EPos w B g vo vi (sgb sq ak f wi A n c) W9 { x with st := 4, peer := wi, una := x.first, nxt := x.first, wait := 0, tries := 0 } vo vi s.out s.inn) := Lib.hid (by rw [hW9]; exact HX2.out)
              clear hW9 hc hk hlt hlk hfz HX2
              have HLI9 : Hid (s.inn.length ≤ 64) := Lib.hid HLO.out.2
              have HTK := Lib.hid (take97 HP9.out.p.o (Nat.le_trans hB (Nat.le_of_lt HP9.out.p.s)) HLI9.out sq ak f wi A n c ds (HRB.out _ _ _ HP9.out.p.a) hn32 hnc hcm hf01.1 hf01.2)
              have hk9 := HP9.out.p.k
              have hlk9 := HP9.out.p.s
              dsimp only [sgb] at hk9
              go_wp2_with fail
              refine HTK.out.mono ?_
              rintro e w9 ⟨rfl, hgo⟩
              have HG := Lib.hid (HP9.out.then_ hgo)
              clear hgo
              go_wp2
              go_ret
              exact ⟨rfl, by
                rw [HE1.out]
                have t3 := tie_data (tie_open3 HT.out HOK.out HS4.out wi) (HOK.out.opened (by rw [HS4.out]; decide) HTOP1.out HX.out.window (HOK.out.early (by rw [HS4.out]; decide)).2.2.1) rfl _ HX.out
                have hor := open_rows HOK.out (by rw [HS4.out]; decide) s.irs wi s.due
                try dsimp only at t3
                rw [HLN.out] at t3
                exact ⟨_, t3.1, by rw [← t3.2.1, ← t3.2.2]; exact hor ▸ HG.out⟩⟩
  | true =>
    obtain ⟨tq, htq⟩ : ∃ tq, ((sq + 1) % 4294967296 == x.rcv) = tq := ⟨_, rfl⟩
    have hwr : IntKind.u32.wrap (sq + 1) = (sq + 1) % 4294967296 := wrap_u32 _
    have HTQ : Hid (decide (sq = s.irs) = tq) := Lib.hid (by rw [← htq]; exact (again_eq HT.out HOK.out HS4.out HSQ.out).symm)
    cases tq with
    | true =>
      have HE1 : Hid (S' = { s with nxt := 0 }) := Lib.hid (by have h3 := of_decide_eq_true HTQ.out; rw [← HE.out]; simp [Sm.cameS, Hrs.out, Hsy.out, Hac.out, HS4.out, if_pos h3])
      go_wp2_with fail
      go_quiet (fail)
      obtain ⟨W3, hWW3⟩ : ∃ W, W = W2.drewN nq := ⟨_, rfl⟩
      rw [← hWW3]
      have HPW3 : Hid (EPos w B g vo vi (sgb sq ak f wi A n c) W3 x vo vi s.out s.inn) := Lib.hid (by rw [hWW3]; exact HPW2.out.drewN _)
      clear hWW3 hc hk hlt hlk hfz
      have hc := HPW3.out.p.o.blk.cell
      have hk := HPW3.out.p.k
      have hlt := HPW3.out.p.o.blk.lt
      have hlk := HPW3.out.p.s
      have hfz := HPW3.out.p.o.blk.free
      dsimp only [ecells, sgb] at hc hk
      go_wp2_with fail
      go_quiet (fail)
      obtain ⟨W4, hWW4⟩ : ∃ W, W = W3.drewN nq := ⟨_, rfl⟩
      rw [← hWW4]
      have HPW4 : Hid (EPos w B g vo vi (sgb sq ak f wi A n c) W4 x vo vi s.out s.inn) := Lib.hid (by rw [hWW4]; exact HPW3.out.drewN _)
      clear hWW4 hc hk hlt hlk hfz
      have hc := HPW4.out.p.o.blk.cell
      have hk := HPW4.out.p.k
      have hlt := HPW4.out.p.o.blk.lt
      have hlk := HPW4.out.p.s
      have hfz := HPW4.out.p.o.blk.free
      dsimp only [ecells, sgb] at hc hk
      have HX1 : Hid (EPos w B g vo vi (sgb sq ak f wi A n c) (W4.setCell ⟨g, 2, none⟩ (.int .u32 x.una)) { x with nxt := x.una } vo vi s.out s.inn) := Lib.hid (HPW4.out.set1 (x' := { x with nxt := x.una }) 2 (.int .u32 x.una) (by simp [ecells]))
      go_wp2
      go_ret
      exact ⟨rfl, by rw [HE1.out]; exact ⟨_, tie_again HT.out HOK.out HS4.out, HX1.out.p.go⟩⟩
    | false =>
      have HE1 : Hid (S' = s) := Lib.hid (by have h3 := of_decide_eq_false HTQ.out; rw [← HE.out]; simp [Sm.cameS, Hrs.out, Hsy.out, Hac.out, HS4.out, if_neg h3])
      cases ac
      all_goals
        go_wp2_with fail
        go_quiet (fail)
        obtain ⟨W3, hWW3⟩ : ∃ W, W = W2.drewN nq := ⟨_, rfl⟩
        rw [← hWW3]
        have HPW3 : Hid (EPos w B g vo vi (sgb sq ak f wi A n c) W3 x vo vi s.out s.inn) := Lib.hid (by rw [hWW3]; exact HPW2.out.drewN _)
        clear hWW3 hc hk hlt hlk hfz
        have hc := HPW3.out.p.o.blk.cell
        have hk := HPW3.out.p.k
        have hlt := HPW3.out.p.o.blk.lt
        have hlk := HPW3.out.p.s
        have hfz := HPW3.out.p.o.blk.free
        dsimp only [ecells, sgb] at hc hk
        go_wp2_with fail
        go_quiet (fail)
        obtain ⟨W4, hWW4⟩ : ∃ W, W = W3.drewN nq := ⟨_, rfl⟩
        rw [← hWW4]
        have HPW4 : Hid (EPos w B g vo vi (sgb sq ak f wi A n c) W4 x vo vi s.out s.inn) := Lib.hid (by rw [hWW4]; exact HPW3.out.drewN _)
        clear hWW4 hc hk hlt hlk hfz
        have hc := HPW4.out.p.o.blk.cell
        have hk := HPW4.out.p.k
        have hlt := HPW4.out.p.o.blk.lt
        have hlk := HPW4.out.p.s
        have hfz := HPW4.out.p.o.blk.free
        dsimp only [ecells, sgb] at hc hk
        go_wp2_with fail
        go_quiet (fail)
        obtain ⟨W5, hWW5⟩ : ∃ W, W = W4.drewN nq := ⟨_, rfl⟩
        rw [← hWW5]
        have HPW5 : Hid (EPos w B g vo vi (sgb sq ak f wi A n c) W5 x vo vi s.out s.inn) := Lib.hid (by rw [hWW5]; exact HPW4.out.drewN _)
        clear hWW5 hc hk hlt hlk hfz
        have hc := HPW5.out.p.o.blk.cell
        have hk := HPW5.out.p.k
        have hlt := HPW5.out.p.o.blk.lt
        have hlk := HPW5.out.p.s
        have hfz := HPW5.out.p.o.blk.free
        dsimp only [ecells, sgb] at hc hk
        go_wp2
        go_ret
        exact ⟨rfl, by rw [HE1.out]; exact ⟨x, HT.out, HPW5.out.p.go⟩⟩
set_option maxHeartbeats 8000000 in
set_option maxRecDepth 100000 in
theorem ecome_on4 (h : ESt w B g x vo vi s.out s.inn) (tie : Tie s x) (hB : B ≤ w.heap.size) (sq ak f wi : Int) (ds : List Int) (hx : Sg.Fine ⟨sq, ak, f, wi, ds⟩) (A : Option Addr) (n c : Nat) (hd : Far w g vo vi A n ds) (hnc : n ≤ c) (hcm : c ≤ 9223372036854775807) (he : checkI f wi n = 0) (hok : s.Ok m) (hm : m ≤ 1000) (hs5 : s.st ≠ 5) (hr : f / 8 % 2 = 0) (hst3 : s.st = 4) :
    Calls Try.prog 52 #[.pointer (some ⟨g, 0, none⟩), .agg #[.int .u32 sq, .int .u32 ak, .int .i64 f, .int .i64 wi, .slice A n c]] w (ESRet 0 w B g vo vi (s.cameS ⟨sq, ak, f, wi, ds⟩)) := by
  have HGB := Lib.hid (fun w' (hb : Below w.heap.size w w') => Ob2.grow h hb)
  have HCK := Lib.hid (fun W => check_any sq ak f wi A n c W)
  rw [he] at HCK
  have HRB := Lib.hid (fun w' v1 v2 (ha : At2 w g vo vi w' v1 v2) => hd.at ha)
  have HINI := Lib.hid (fun w' (hb : Below w.heap.size w w') hk hs => EPos.init (sb := sgb sq ak f wi A n c) (W := w') h hb hk hs)
  have d2 : (x.st == 0) = false := by rw [beq_eq_false_iff_ne, tie.st]; have := hok.st0; omega
  have d3 : (x.st == 5) = false := by rw [tie.st]; simpa using hs5
  obtain ⟨b1, b2, b4, b8⟩ := flag_bits hx.flags.1 hx.flags.2
  have hqlt := (Ob2.blk h).lt
  have hne : ¬ w.heap.size = g := by omega
  have hkb := (Blk.new w (sgb sq ak f wi A n c) 25)
  have t8 : (f / 8 % 2 * 8 != 0) = false := by rw [hr]; rfl
  obtain ⟨sy, hsy⟩ : ∃ sy, (f % 2 != 0) = sy := ⟨_, rfl⟩
  obtain ⟨ac, hac⟩ : ∃ ac, (f / 2 % 2 * 2 != 0) = ac := ⟨_, rfl⟩
  obtain ⟨ta, hta⟩ : ∃ ta, (ak == x.first) = ta := ⟨_, rfl⟩
  obtain ⟨tp, htp⟩ : ∃ tp, (x.top == x.first) = tp := ⟨_, rfl⟩
  have Hsy : Hid (Sg.syn ⟨sq, ak, f, wi, ds⟩ = sy) := Lib.hid (by rw [← hsy]; exact (sg_bits' f).1.symm)
  have Hac : Hid (Sg.ac ⟨sq, ak, f, wi, ds⟩ = ac) := Lib.hid (by rw [← hac]; exact (sg_bits' f).2.symm)
  have Hrs : Hid (Sg.rs ⟨sq, ak, f, wi, ds⟩ = false) := Lib.hid (by simp [Sg.rs, hr])
  have HMB : Hid (s.st ≤ 3 → s.mineB ⟨sq, ak, f, wi, ds⟩ = (ac && ta && tp)) := Lib.hid (fun h3 => by
    rw [mine_eq tie hok h3, Hac.out, ← hta, ← htp])
  have HT := Lib.hid tie
  have HST : Hid (x.st = s.st) := Lib.hid tie.st
  have HX := Lib.hid hx
  have HOK := Lib.hid hok
  have HS5 := Lib.hid hs5
  have HM := Lib.hid hm
  have HLO : Hid (s.out.length ≤ 64 ∧ s.inn.length ≤ 64) := Lib.hid ⟨by rw [s.out_len]; exact hok.room, by rw [s.inn_len]; exact hok.rroom⟩
  have HLN : Hid (ds.length = n) := Lib.hid hd.len
  have hn32 : n ≤ 32 := by have h1 := hx.len; have h2 := hd.len; dsimp only at h1; omega
  have hf01 := hx.flags
  dsimp only at hf01
  obtain ⟨S', hS'⟩ : ∃ S', s.cameS ⟨sq, ak, f, wi, ds⟩ = S' := ⟨_, rfl⟩
  rw [hS']
  have HE := Lib.hid hS'
  have HSQ := Lib.hid hx.seq
  clear h he hd hx hok hs5 hr hS' hm tie
  go_enter Try.func52, Try.ntmps52
  go_wp2_with fail
  refine (HCK.out _).mono ?_
  rintro e w1 ⟨rfl, hbs⟩
  have hbb : Below w.heap.size w w1 := ((Below.refl w.heap.size w).alloc (Nat.le_refl _) (.cells (sgb sq ak f wi A n c) 25)).trans (hbs.mono (by simp))
  have HB1 := Lib.hid hbb
  have hc : ∀ j, w1.cell? ⟨g, j, none⟩ = (ecells x vo vi)[j]? := (Ob2.blk (HGB.out w1 hbb)).cell
  have hk : ∀ j, w1.cell? ⟨w.heap.size, j, none⟩ = (sgb sq ak f wi A n c)[j]? := fun j => (hbs.cell (p := ⟨w.heap.size, j, none⟩) (by simp)).trans (hkb.cell j)
  have hlt := (Ob2.blk (HGB.out w1 hbb)).lt
  have hlk : w.heap.size < w1.heap.size := by have := hbs.size; simp at this; omega
  have HP1 := Lib.hid (HINI.out w1 hbb hk hlk)
  dsimp only [ecells, sgb] at hc hk
  clear hbs hbb hkb
  go_wp2_with fail
  go_quiet (fail)
  obtain ⟨W2, hWW2⟩ : ∃ W, W = w1.drewN nq := ⟨_, rfl⟩
  rw [← hWW2]
  have HPW2 : Hid (EPos w B g vo vi (sgb sq ak f wi A n c) W2 x vo vi s.out s.inn) := Lib.hid (by rw [hWW2]; exact HP1.out.drewN _)
  clear hWW2 hc hk hlt hlk
  have hc := HPW2.out.p.o.blk.cell
  have hk := HPW2.out.p.k
  have hlt := HPW2.out.p.o.blk.lt
  have hlk := HPW2.out.p.s
  have hfz := HPW2.out.p.o.blk.free
  dsimp only [ecells, sgb] at hc hk
  have HS4 : Hid (s.st = 4) := Lib.hid hst3
  have e1 : (x.st == 1) = false := by rw [HST.out, HS4.out]; rfl
  have e2 : (x.st == 2) = false := by rw [HST.out, HS4.out]; rfl
  have e3 : (x.st == 3) = false := by rw [HST.out, HS4.out]; rfl
  have e4 : (x.st == 4) = true := by rw [HST.out, HS4.out]; rfl
  clear hst3 d2 d3
  have HEA : Hid (S' = Sm.dataS (if sy = true then s else s.answerS ⟨sq, ak, f, wi, ds⟩) ⟨sq, ak, f, wi, ds⟩) := Lib.hid (by rw [← HE.out]; simp [Sm.cameS, Hrs.out, Hsy.out, HS4.out])
  have H44 := Lib.hid (fun hh : sy = false => tie_answer HT.out HOK.out HM.out HS4.out _ HX.out)
  cases sy with
  | true =>
    have HE1 : Hid (S' = Sm.dataS s ⟨sq, ak, f, wi, ds⟩) := Lib.hid (by rw [HEA.out]; rfl)
    clear HEA H44
    cases ac
    all_goals
      go_wp2_with fail
      go_quiet (fail)
      obtain ⟨W3, hWW3⟩ : ∃ W, W = W2.drewN nq := ⟨_, rfl⟩
      rw [← hWW3]
      have HPW3 : Hid (EPos w B g vo vi (sgb sq ak f wi A n c) W3 x vo vi s.out s.inn) := Lib.hid (by rw [hWW3]; exact HPW2.out.drewN _)
      clear hWW3 hc hk hlt hlk hfz
      have hc := HPW3.out.p.o.blk.cell
      have hk := HPW3.out.p.k
      have hlt := HPW3.out.p.o.blk.lt
      have hlk := HPW3.out.p.s
      have hfz := HPW3.out.p.o.blk.free
      dsimp only [ecells, sgb] at hc hk
      go_wp2_with fail
      go_quiet (fail)
      obtain ⟨W4, hWW4⟩ : ∃ W, W = W3.drewN nq := ⟨_, rfl⟩
      rw [← hWW4]
      have HPW4 : Hid (EPos w B g vo vi (sgb sq ak f wi A n c) W4 x vo vi s.out s.inn) := Lib.hid (by rw [hWW4]; exact HPW3.out.drewN _)
      clear hWW4 hc hk hlt hlk hfz
      have hc := HPW4.out.p.o.blk.cell
      have hk := HPW4.out.p.k
      have hlt := HPW4.out.p.o.blk.lt
      have hlk := HPW4.out.p.s
      have hfz := HPW4.out.p.o.blk.free
      dsimp only [ecells, sgb] at hc hk
      go_wp2_with fail
      go_quiet (fail)
      obtain ⟨W5, hWW5⟩ : ∃ W, W = W4.drewN nq := ⟨_, rfl⟩
      rw [← hWW5]
      have HPW5 : Hid (EPos w B g vo vi (sgb sq ak f wi A n c) W5 x vo vi s.out s.inn) := Lib.hid (by rw [hWW5]; exact HPW4.out.drewN _)
      clear hWW5 hc hk hlt hlk hfz
      have hc := HPW5.out.p.o.blk.cell
      have hk := HPW5.out.p.k
      have hlt := HPW5.out.p.o.blk.lt
      have hlk := HPW5.out.p.s
      have hfz := HPW5.out.p.o.blk.free
      dsimp only [ecells, sgb] at hc hk
      have HP9 := HPW5
      have HLI9 : Hid (s.inn.length ≤ 64) := Lib.hid HLO.out.2
      have HTK := Lib.hid (take97 HP9.out.p.o (Nat.le_trans hB (Nat.le_of_lt HP9.out.p.s)) HLI9.out sq ak f wi A n c ds (HRB.out _ _ _ HP9.out.p.a) hn32 hnc hcm hf01.1 hf01.2)
      have hk9 := HP9.out.p.k
      have hlk9 := HP9.out.p.s
      dsimp only [sgb] at hk9
      go_wp2_with fail
      refine HTK.out.mono ?_
      rintro e w9 ⟨rfl, hgo⟩
      have HG := Lib.hid (HP9.out.then_ hgo)
      clear hgo
      go_wp2
      go_ret
      exact ⟨rfl, by
        rw [HE1.out]
        have t3 := tie_data HT.out HOK.out HS4.out _ HX.out
        try dsimp only at t3
        rw [HLN.out] at t3
        exact ⟨_, t3.1, by rw [← t3.2.1, ← t3.2.2]; exact HG.out⟩⟩
  | false =>
    have HE1 : Hid (S' = Sm.dataS (s.answerS ⟨sq, ak, f, wi, ds⟩) ⟨sq, ak, f, wi, ds⟩) := Lib.hid (by rw [HEA.out]; rfl)
    have HTA := Lib.hid (H44.out rfl)
    clear HEA H44
    cases ac
    all_goals
      go_wp2_with fail
      go_quiet (fail)
      obtain ⟨W3, hWW3⟩ : ∃ W, W = W2.drewN nq := ⟨_, rfl⟩
      rw [← hWW3]
      have HPW3 : Hid (EPos w B g vo vi (sgb sq ak f wi A n c) W3 x vo vi s.out s.inn) := Lib.hid (by rw [hWW3]; exact HPW2.out.drewN _)
      clear hWW3 hc hk hlt hlk hfz
      have hc := HPW3.out.p.o.blk.cell
      have hk := HPW3.out.p.k
      have hlt := HPW3.out.p.o.blk.lt
      have hlk := HPW3.out.p.s
      have hfz := HPW3.out.p.o.blk.free
      dsimp only [ecells, sgb] at hc hk
      go_wp2_with fail
      go_quiet (fail)
      obtain ⟨W4, hWW4⟩ : ∃ W, W = W3.drewN nq := ⟨_, rfl⟩
      rw [← hWW4]
      have HPW4 : Hid (EPos w B g vo vi (sgb sq ak f wi A n c) W4 x vo vi s.out s.inn) := Lib.hid (by rw [hWW4]; exact HPW3.out.drewN _)
      clear hWW4 hc hk hlt hlk hfz
      have hc := HPW4.out.p.o.blk.cell
      have hk := HPW4.out.p.k
      have hlt := HPW4.out.p.o.blk.lt
      have hlk := HPW4.out.p.s
      have hfz := HPW4.out.p.o.blk.free
      dsimp only [ecells, sgb] at hc hk
      go_wp2_with fail
      go_quiet (fail)
      obtain ⟨W5, hWW5⟩ : ∃ W, W = W4.drewN nq := ⟨_, rfl⟩
      rw [← hWW5]
      have HPW5 : Hid (EPos w B g vo vi (sgb sq ak f wi A n c) W5 x vo vi s.out s.inn) := Lib.hid (by rw [hWW5]; exact HPW4.out.drewN _)
      clear hWW5 hc hk hlt hlk hfz
      have hc := HPW5.out.p.o.blk.cell
      have hk := HPW5.out.p.k
      have hlt := HPW5.out.p.o.blk.lt
      have hlk := HPW5.out.p.s
      have hfz := HPW5.out.p.o.blk.free
      dsimp only [ecells, sgb] at hc hk
      have HAN := Lib.hid (answer98 HPW5.out.p.o (Nat.le_trans hB (Nat.le_of_lt HPW5.out.p.s)) HLO.out.1 sq ak f wi A n c hf01.1 hf01.2)
      go_wp2_with fail
      refine HAN.out.mono ?_
      rintro e w8 ⟨rfl, hgo⟩
      obtain ⟨v1, v2, hP8⟩ := HPW5.out.call hgo
      have HP9 := Lib.hid hP8
      clear hgo hP8 hc hk hlt hlk hfz
      have HLI9 : Hid (s.inn.length ≤ 64) := Lib.hid HLO.out.2
      have HTK := Lib.hid (take97 HP9.out.p.o (Nat.le_trans hB (Nat.le_of_lt HP9.out.p.s)) HLI9.out sq ak f wi A n c ds (HRB.out _ _ _ HP9.out.p.a) hn32 hnc hcm hf01.1 hf01.2)
      have hk9 := HP9.out.p.k
      have hlk9 := HP9.out.p.s
      dsimp only [sgb] at hk9
      go_wp2_with fail
      refine HTK.out.mono ?_
      rintro e w9 ⟨rfl, hgo⟩
      have HG := Lib.hid (HP9.out.then_ hgo)
      clear hgo
      go_wp2
      go_ret
      exact ⟨rfl, by
        rw [HE1.out]
        have ta := HTA.out
        try dsimp only at ta
        have ha4 : (s.answerS ⟨sq, ak, f, wi, ds⟩).st = 4 := by rw [← ta.1.st]; exact (anX_st _ _ _ _ _).trans (HST.out.trans HS4.out)
        have t3 := tie_data ta.1 (HOK.out.answer HS4.out HX.out) ha4 _ HX.out
        try dsimp only at t3
        rw [HLN.out, ← ta.2.2] at t3
        exact ⟨_, t3.1, by rw [← t3.2.1, ← t3.2.2, ← ta.2.1]; exact HG.out⟩⟩
end
end Go.Proofs.Ythlhjaacjhlkhaa
