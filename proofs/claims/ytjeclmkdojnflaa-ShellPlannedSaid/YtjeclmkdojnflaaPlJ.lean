/- Copying a set of descriptors by a range over it. -/
import Derived.Test.YtjeclmkdojnflaaPlI
namespace Go.Proofs.Ytjeclmkdojnflaa
open Go.RowKit
set_option maxHeartbeats 400000
set_option linter.unusedVariables false
set_option linter.unusedSimpArgs false
structure Cpy (W : World) (po ph pd pm bh bm nb kb ri mm : Nat) (me : Int) (r : Sp) (M : Fds) (l : List Stp) (left : Int → Bool) (lc n : Nat) (w : World) : Prop where
  rs : ∃ v, Rs w W.heap.size po v l
  rg : TRng Try.prog w 3 4 bm ri nb M mm left lc
  hs : ∃ S m, FSet w bh n S m ∧ ∀ x, S x = (M x && !left x)
  hc : Blk w ph #[.map (some bh)] 59
  dc : Blk w pd #[doF po] 60
  mc : Blk w pm #[.int .i64 me] 3
  sm : Blk w kb (smV r) 49
  ne : bm ≠ bh
  ne2 : bh ≠ ri
  lb : W.heap.size ≤ bm
  lh : W.heap.size ≤ bh
  li : W.heap.size ≤ ri
  m8 : mm + cnt M = 8
  hn : n + lc ≤ mm
  below : Below W.heap.size W w
theorem iter_is {w : World} {b r n m lc : Nat} {S left : Int → Bool} (h : TRng Try.prog w 3 4 b r n S m left lc) : ∃ a b c d, w.heap[r]? = some (.mapIter a b c d) := by
  obtain ⟨D, L, ⟨es, clock, since, seen, c0, h1, h2, h3, h4, h5, _⟩, _⟩ := h
  exact ⟨_, _, _, _, h5⟩
theorem iter_blk {w : World} {b r n m lc : Nat} {S left : Int → Bool} (h : TRng Try.prog w 3 4 b r n S m left lc) {g : Nat} {cs : Array Value} {t : TypeId} (hb : Blk w g cs t) : g ≠ r := by
  rintro rfl
  obtain ⟨_, _, _, _, he⟩ := iter_is h
  unfold Blk at hb
  rw [he] at hb
  cases hb
theorem iter_row {w : World} {b r n m lc : Nat} {S left : Int → Bool} (h : TRng Try.prog w 3 4 b r n S m left lc) {B s k : Nat} {e : TypeId} {v : Value} {xs : List Value} (hr : Row w B e s v k xs) : v.ownBlock ≠ some r := by
  obtain ⟨_, _, _, _, he⟩ := iter_is h
  rcases hr.2 with ⟨rfl, _⟩ | ⟨g, o, cap, cur, rfl, _, hg, _⟩
  · intro e; cases e
  · intro e
    injection e with e
    subst e
    rw [he] at hg
    cases hg
namespace Cpy
variable {W w w' : World} {po ph pd pm bh bm nb kb ri mm lc n : Nat} {me : Int} {r : Sp} {M : Fds} {l : List Stp} {left : Int → Bool}
theorem size8 (h : Cpy W po ph pd pm bh bm nb kb ri mm me r M l left lc n w) : n + lc ≤ 8 := by have := h.hn; have := h.m8; omega
theorem left_eq (h : Cpy W po ph pd pm bh bm nb kb ri mm me r M l left lc n w) : w.rangeLeft bm ri = lc := h.rg.left_eq
/-- What a write into the copy or the iterator leaves. -/
theorem kept (h : Cpy W po ph pd pm bh bm nb kb ri mm me r M l left lc n w) {F : Nat → Prop} (hf : Fr F w w') (hF : ∀ k, F k → k = bh ∨ k = ri) {left' : Int → Bool} {lc' n' : Nat} (hrg : TRng Try.prog w' 3 4 bm ri nb M mm left' lc')
    (hs : ∃ S m, FSet w' bh n' S m ∧ ∀ x, S x = (M x && !left' x)) (hn : n' + lc' ≤ mm) : Cpy W po ph pd pm bh bm nb kb ri mm me r M l left' lc' n' w' := by
  obtain ⟨v, hr⟩ := h.rs
  obtain ⟨S, m, hS, _⟩ := h.hs
  have hb : ∀ {k : Nat} {cs : Array Value} {t : TypeId}, Blk w k cs t → Blk w' k cs t := fun hk => hk.fr hf (fun e => by
    rcases hF _ e with e | e
    · exact set_blk hS hk e
    · exact iter_blk h.rg hk e)
  refine ⟨⟨v, hb hr.ob, hr.row.fr hf (fun k hk e => ?_), hr.lp⟩, hrg, hs, hb h.hc, hb h.dc, hb h.mc, hb h.sm, h.ne, h.ne2, h.lb, h.lh, h.li, h.m8, hn, h.below.trans (hf.below h.below.size (fun k e => ?_))⟩
  · rcases hF _ e with e | e
    · exact set_row hS hr.row (e ▸ hk)
    · exact iter_row h.rg hr.row (e ▸ hk)
  · rcases hF _ e with rfl | rfl
    · exact h.lh
    · exact h.li
theorem step (h : Cpy W po ph pd pm bh bm nb kb ri mm me r M l left lc n w) :
    ((∀ x, left x = false) ∧ (Instr.next (.pointer (some ⟨ri, 0, none⟩)) false 0).run Try.prog w = .ok (.tuple #[.bool false]) w) ∨
    ∃ x w1 w2 left' lc', (Instr.next (.pointer (some ⟨ri, 0, none⟩)) false 0).run Try.prog w = .ok (.tuple #[.bool true, .int .i64 x, .bool true]) w1 ∧ (Instr.entry (.pointer (some ⟨ri, 0, none⟩))).run Try.prog w1 = .ok (.tuple #[.int .i64 x, .bool true]) w1 ∧
      w1.cell? ⟨ph, 0, none⟩ = some (.map (some bh)) ∧ ph < w1.heap.size ∧ (Instr.mapUpdate 59 (.map (some bh)) (.int .i64 x) (.bool true)).run Try.prog w1 = .ok () w2 ∧ Cpy W po ph pd pm bh bm nb kb ri mm me r M l left' lc' (n + 1) w2 ∧ lc' < lc := by
  obtain ⟨S, m, hS, hSM⟩ := h.hs
  rcases h.rg.next Try.underlying3 Try.underlying4 0 with ⟨h0, hrun⟩ | ⟨x, w1, lc', hwf, hlx, hsx, hrun, hrg1, hlt, hg1, hs1, hen⟩
  · exact .inl ⟨h0, hrun⟩
  · have hf1 : Fr (fun k => k = ri) w w1 := (Fr.of_grown hg1).mono fun k _ e => by injection e with e; exact e.symm
    have hS1 := hS.fr hf1 h.ne2
    have hc1 : Blk w1 ph #[.map (some bh)] 59 := h.hc.fr hf1 (iter_blk h.rg h.hc)
    have h8 := h.size8
    obtain ⟨w2, hrun2, hS2, hg2⟩ := hS1.update Try.underlying3 Try.underlying4 Try.underlying59 (by unfold maxLen; omega) hwf
    have hf2 : Fr (fun k => k = bh) w1 w2 := (Fr.of_grown hg2).mono fun k _ e => by injection e with e; exact e.symm
    refine .inr ⟨x, w1, w2, fun z => if z = x then false else left z, lc', hrun, hen, hc1.cell 0, hc1.lt, hrun2, ?_, hlt⟩
    refine h.kept (F := fun k => k = bh ∨ k = ri) ((hf1.mono (fun k _ e => .inr e)).trans hf2 (fun k _ e => .inl e)) (fun k e => e) (hrg1.kept hg2 (fun e => h.ne (by injection e)) (fun e => h.ne2 (by injection e with e; exact e.symm))) ⟨_, _, hS2, fun z => ?_⟩ (by have := h.hn; omega)
    by_cases hz : z = x
    · subst hz; simp [hsx]
    · simp [hz, hSM z]
/-- All have come. -/
theorem kid (h : Cpy W po ph pd pm bh bm nb kb ri mm me r M l left lc n w) (h0 : ∀ x, left x = false) : Kid W po ph pd pm w.heap.size bh bm nb kb me r M n (M, l) (w.alloc (.cells #[shF ph pd pm] 53)) := by
  obtain ⟨v, hr⟩ := h.rs
  obtain ⟨S, m, hS, hSM⟩ := h.hs
  have e : S = M := by funext x; rw [hSM x, h0 x]; simp
  subst e
  have hb : Below w.heap.size w (w.alloc (.cells #[shF ph pd pm] 53)) := (Below.refl _ _).alloc (Nat.le_refl _) _
  have hf := Fr.of_grow hb
  exact ⟨⟨v, hr.grow hb, ⟨m, hS.grow hb⟩, h.hc.fr hf id, h.dc.fr hf id, h.mc.fr hf id, h.lh⟩, ⟨mm, h.rg.set.grow hb, h.m8⟩, h.ne, Blk.new _ _ _, h.sm.alloc _, h.lb, h.below.alloc h.below.size _⟩
end Cpy
/-- The world ahead of the range. -/
def cpW (w : World) (me : Int) : World := ((w.alloc (.cells #[.int .i64 me] 3)).alloc (.map #[] 0)).alloc (.cells #[.map (some (w.heap.size + 1))] 59)
theorem Ow.copy {W w : World} {po pd bm nb kb : Nat} {q : Pst} {r : Sp} (h : Ow W po pd bm nb q w) (hs : Blk w kb (smV r) 49) (me : Int) :
    ∃ w', (Instr.range 59 (.map (some bm))).run Try.prog (cpW w me) = .ok (.pointer (some ⟨w.heap.size + 1 + 1 + 1, 0, none⟩)) w' ∧ ∃ mm lc, Cpy W po (w.heap.size + 1 + 1) pd w.heap.size (w.heap.size + 1) bm nb kb (w.heap.size + 1 + 1 + 1) mm me r q.1 q.2 q.1 lc 0 w' := by
  obtain ⟨v, hr⟩ := h.rs
  obtain ⟨m, hm, hc⟩ := h.ms
  have hb : Below w.heap.size w (cpW w me) := (((Below.refl _ _).alloc (Nat.le_refl _) _).alloc (by simp) _).alloc (by simp; omega) _
  have hsz : (cpW w me).heap.size = w.heap.size + 1 + 1 + 1 := by simp [cpW]
  obtain ⟨w', hrun, hrg, hg, hs'⟩ := (hm.grow hb).range Try.underlying3 Try.underlying59
  rw [hsz] at hrun hrg
  have hb2 : Below (cpW w me).heap.size (cpW w me) w' := (Fr.of_grown hg).mono (S' := Nil) (fun _ _ e => by cases e) |>.grow
  have hbb : Below w.heap.size w w' := hb.trans (hb2.mono hb.size)
  have hf := Fr.of_grow hbb
  have hf2 := Fr.of_grow hb2
  have hset : FSet (cpW w me) (w.heap.size + 1) 0 (fun _ => false) 0 := by
    have := TSet.made Try.prog (w.alloc (.cells #[.int .i64 me] 3)) 3 4
    have e : (w.alloc (.cells #[.int .i64 me] 3)).heap.size = w.heap.size + 1 := by simp
    rw [e] at this
    exact this.grow ((Below.refl _ _).alloc (Nat.le_refl _) _)
  have hcell : Blk (cpW w me) (w.heap.size + 1 + 1) #[.map (some (w.heap.size + 1))] 59 := by
    have := Blk.new ((w.alloc (.cells #[.int .i64 me] 3)).alloc (.map #[] 0)) #[.map (some (w.heap.size + 1))] 59
    have e : ((w.alloc (.cells #[.int .i64 me] 3)).alloc (.map #[] 0)).heap.size = w.heap.size + 1 + 1 := by simp
    rw [e] at this
    exact this
  have hme : Blk (cpW w me) w.heap.size #[.int .i64 me] 3 := ((Blk.new w _ _).alloc _).alloc _
  have hlm := hm.lt
  have hlb := h.below.size
  exact ⟨w', hrun, m, m, ⟨v, hr.grow hbb⟩, hrg, ⟨_, _, hset.grow hb2, fun x => by simp⟩, hcell.fr hf2 id, h.dc.fr hf id, hme.fr hf2 id, hs.fr hf id, by omega, by omega, h.lb, by omega, by omega, hc, by omega, h.below.trans (hbb.mono hlb)⟩
end Go.Proofs.Ytjeclmkdojnflaa
