/- The reference's plan in memory: the shell's own, a child's; how each call turns them. -/
import Derived.Test.YtjeclmkdojnflaaPlH
namespace Go.Proofs.Ytjeclmkdojnflaa
open Go.RowKit
set_option maxHeartbeats 400000
set_option linter.unusedVariables false
set_option linter.unusedSimpArgs false
def smV (r : Sp) : Array Value := #[.slice r.A r.n r.c, .string r.sin, .string r.sout, .bool r.more]
theorem cnt_le (S : Fds) : cnt S ≤ 8 := by
  rw [← cntTo_all]; exact cntTo_le S 8
/-- The shell's own. -/
structure Ow (W : World) (po pd bm nb : Nat) (q : Pst) (w : World) : Prop where
  rs : ∃ v, Rs w W.heap.size po v q.2
  ms : ∃ m, FSet w bm nb q.1 m ∧ m + cnt q.1 = 8
  dc : Blk w pd #[doF po] 60
  lb : W.heap.size ≤ bm
  below : Below W.heap.size W w
theorem Rs.not_set {w : World} {B po bm nb m : Nat} {v : Value} {l : List Stp} {S : Fds} (h : Rs w B po v l) (hm : FSet w bm nb S m) : ¬ RF po v bm := fun e => by
  rcases e with e | e
  · exact set_blk hm h.ob e.symm
  · exact set_row hm h.row e
theorem Rs.not_blk {w : World} {B po k : Nat} {v : Value} {l : List Stp} {cs : Array Value} {t : TypeId} (h : Rs w B po v l) (hk : Blk w k cs t) (h1 : t ≠ 24) (h2 : t ≠ 32) : ¬ RF po v k := fun e => by
  rcases e with e | e
  · exact blk_ne hk h.ob h1 e
  · exact row_blk h.row hk (Ne.symm h2) e
namespace Ow
variable {W w w' : World} {po pd bm nb kb : Nat} {q : Pst} {cs : Array Value} {t : TypeId}
theorem grow (h : Ow W po pd bm nb q w) (hb : Below w.heap.size w w') : Ow W po pd bm nb q w' := by
  obtain ⟨v, hr⟩ := h.rs
  obtain ⟨m, hm, hc⟩ := h.ms
  exact ⟨⟨v, hr.grow hb⟩, ⟨m, hm.grow hb, hc⟩, h.dc.fr (Fr.of_grow hb) id, h.lb, h.below.trans (hb.mono h.below.size)⟩
theorem alloc (h : Ow W po pd bm nb q w) (o : Obj) : Ow W po pd bm nb q (w.alloc o) := h.grow ((Below.refl _ _).alloc (Nat.le_refl _) _)
theorem cells (h : Ow W po pd bm nb q w) : w.cell? ⟨pd, 0, none⟩ = some (.func (.func 19) #[] #[.pointer (some ⟨po, 0, none⟩)]) ∧ pd < w.heap.size := ⟨h.dc.cell 0, h.dc.lt⟩
/-- 'do'; another block stays as it was. -/
theorem dos (h : Ow W po pd bm nb q w) {who num a b : Int} {s : ByteArray} (hl : q.2.length ≤ 10000) :
    Calls Try.prog 19 #[.int .i64 who, .int .i64 num, .int .i64 a, .int .i64 b, .string s, .pointer (some ⟨po, 0, none⟩)] w fun e w' => e = .returned (.tuple #[]) ∧ Ow W po pd bm nb (q.1, q.2 ++ [⟨who, num, a, b, 0, s⟩]) w' ∧ ∀ k cs t, Blk w k cs t → t ≠ 24 → t ≠ 32 → Blk w' k cs t := by
  obtain ⟨v, hr⟩ := h.rs
  obtain ⟨m, hm, hc⟩ := h.ms
  refine (do_any w _ po v q.2 who num a b s hr hl).mono ?_
  rintro e w' ⟨rfl, v1, r1, f1, o1⟩
  exact ⟨rfl, ⟨⟨v1, r1⟩, ⟨m, hm.fr f1 (hr.not_set hm), hc⟩, h.dc.fr f1 (hr.not_blk h.dc (by decide) (by decide)), h.lb, h.below.trans (f1.below h.below.size hr.lowF)⟩, fun k cs t hk h1 h2 => hk.fr f1 (hr.not_blk hk h1 h2)⟩
theorem set (h : Ow W po pd bm nb q w) {nb' m : Nat} {S : Fds} (hs : FSet w' bm nb' S m) (hc : m + cnt S = 8) (hg : w.grownBy w' (some bm)) : Ow W po pd bm nb' (S, q.2) w' ∧ ∀ k cs t, Blk w k cs t → Blk w' k cs t := by
  obtain ⟨v, hr⟩ := h.rs
  obtain ⟨m0, hm, hc0⟩ := h.ms
  have hf : Fr (fun k => k = bm) w w' := (Fr.of_grown hg).mono fun k _ e => by injection e with e; exact e.symm
  exact ⟨⟨⟨v, hr.fr hf (set_blk hm hr.ob) (fun k hk e => set_row hm hr.row (e ▸ hk))⟩, ⟨m, hs, hc⟩, h.dc.fr hf (set_blk hm h.dc), h.lb, h.below.trans (hf.below h.below.size (fun k e => e ▸ h.lb))⟩, fun k cs t hk => hk.fr hf (set_blk hm hk)⟩
theorem free (h : Ow W po pd bm nb q w) (hq : 1 ≤ cnt q.1) (hn : nb < 200000000000000) :
    Calls Try.prog 20 #[.map (some bm)] w fun e w' => e = .returned (.int .i64 (lst q.1)) ∧ Ow W po pd bm (nb + 1) (takeF q) w' ∧ ∀ k cs t, Blk w k cs t → Blk w' k cs t := by
  obtain ⟨m, hm, hc⟩ := h.ms
  refine (free_any w bm nb m q.1 hm hq hn).mono ?_
  rintro e w' ⟨rfl, hs, hg⟩
  obtain ⟨h0, h1, h2, _⟩ := lst_is hq
  have := cnt_take ⟨h0, h1⟩ h2
  exact ⟨rfl, h.set hs (by omega) hg⟩
/-- 'delete'. -/
theorem delete (h : Ow W po pd bm nb q w) {x : Int} (hx : 0 ≤ x ∧ x < 8) (hS : q.1 x = true) : ∃ w', (∀ ty, (Builtin.delete_ #[59, 3] ty #[.map (some bm), .int .i64 x]).run Try.prog w = .ok (.tuple #[]) w') ∧ Ow W po pd bm nb (up q.1 x false, q.2) w' ∧ ∀ k cs t, Blk w k cs t → Blk w' k cs t := by
  obtain ⟨m, hm, hc⟩ := h.ms
  obtain ⟨w', hrun, hs, hg⟩ := hm.delete Try.underlying3 Try.underlying59 (i64_small hx)
  rw [hS] at hs
  have := cnt_free hx hS
  have h8 : cnt (up q.1 x false) ≤ 8 := cnt_le _
  simp only [if_true] at hs
  have h2 := h.set hs (by have := cnt_free hx hS; rw [up_fun]; omega) hg
  exact ⟨w', hrun, h2.1, h2.2⟩
end Ow
/-- A child's. -/
structure Kid (W : World) (po ph pd pm ps bh bm nb kb : Nat) (me : Int) (r : Sp) (M : Fds) (n : Nat) (q : Pst) (w : World) : Prop where
  hw : ∃ v, Hw w W.heap.size po ph pd pm bh n me v q
  ms : ∃ m, FSet w bm nb M m ∧ m + cnt M = 8
  ne : bm ≠ bh
  sc : Blk w ps #[shF ph pd pm] 53
  sm : Blk w kb (smV r) 49
  lb : W.heap.size ≤ bm
  below : Below W.heap.size W w
theorem Kid.of {W w w' : World} {po ph pd pm ps bh bm nb kb n n' : Nat} {me : Int} {r : Sp} {M : Fds} {q q' : Pst} {v : Value} (h : Kid W po ph pd pm ps bh bm nb kb me r M n q w) (hv : Hw w W.heap.size po ph pd pm bh n me v q) (hG : HGo w W.heap.size po ph pd pm bh n' me v q' w') : Kid W po ph pd pm ps bh bm nb kb me r M n' q' w' := by
  obtain ⟨v1, h1, f1, o1⟩ := hG
  obtain ⟨m, hm, hc⟩ := h.ms
  refine ⟨⟨v1, h1⟩, ⟨m, hm.fr f1 (fun e => ?_), hc⟩, h.ne, hv.keep h.sc (by decide) (by decide) f1, hv.keep h.sm (by decide) (by decide) f1, h.lb, h.below.trans (f1.below h.below.size hv.lowF)⟩
  rcases e with e | e
  · exact hv.rs.not_set hm e
  · exact h.ne e
namespace Kid
variable {W w : World} {po ph pd pm ps bh bm nb kb n : Nat} {me : Int} {r : Sp} {M : Fds} {q : Pst}
theorem shut (h : Kid W po ph pd pm ps bh bm nb kb me r M n q w) {x : Int} (hl : q.2.length ≤ 9000) (hx : x < 8) :
    Calls Try.prog 21 #[.int .i64 x, .pointer (some ⟨ph, 0, none⟩), .pointer (some ⟨pd, 0, none⟩), .pointer (some ⟨pm, 0, none⟩)] w fun e w' => e = .returned (.tuple #[]) ∧ Kid W po ph pd pm ps bh bm nb kb me r M n (shutF me x q) w' := by
  obtain ⟨v, hv⟩ := h.hw
  refine (hshut_any w _ po ph pd pm bh n me x v q hv hl hx).mono ?_
  rintro e w' ⟨rfl, hG⟩
  exact ⟨rfl, h.of hv hG⟩
theorem move (h : Kid W po ph pd pm ps bh bm nb kb me r M n q w) {fr tt : Int} (hl : q.2.length ≤ 8900) (hfr : fr < 8) (ht : 0 ≤ tt ∧ tt < 8) (hn : n < 200000000000000) :
    Calls Try.prog 22 #[.int .i64 fr, .int .i64 tt, .pointer (some ⟨pd, 0, none⟩), .pointer (some ⟨pm, 0, none⟩), .pointer (some ⟨ph, 0, none⟩), .pointer (some ⟨ps, 0, none⟩)] w fun e w' => e = .returned (.tuple #[]) ∧ Kid W po ph pd pm ps bh bm nb kb me r M (n + 1) (turnF me fr tt q) w' := by
  obtain ⟨v, hv⟩ := h.hw
  refine (hmove_any w _ po ph pd pm bh n ps me fr tt v q hv h.sc hl hfr ht hn).mono ?_
  rintro e w' ⟨rfl, hG⟩
  exact ⟨rfl, h.of hv hG⟩
theorem dos (h : Kid W po ph pd pm ps bh bm nb kb me r M n q w) {who num a b : Int} {s : ByteArray} (hl : q.2.length ≤ 10000) :
    Calls Try.prog 19 #[.int .i64 who, .int .i64 num, .int .i64 a, .int .i64 b, .string s, .pointer (some ⟨po, 0, none⟩)] w fun e w' => e = .returned (.tuple #[]) ∧ Kid W po ph pd pm ps bh bm nb kb me r M n (q.1, q.2 ++ [⟨who, num, a, b, 0, s⟩]) w' := by
  obtain ⟨v, hv⟩ := h.hw
  refine (do_any w _ po v q.2 who num a b s hv.rs hl).mono ?_
  rintro e w' ⟨rfl, hG⟩
  exact ⟨rfl, h.of hv (hv.out hG)⟩
theorem free (h : Kid W po ph pd pm ps bh bm nb kb me r M n q w) (hq : 1 ≤ cnt q.1) (hn : n < 200000000000000) :
    Calls Try.prog 20 #[.map (some bh)] w fun e w' => e = .returned (.int .i64 (lst q.1)) ∧ Kid W po ph pd pm ps bh bm nb kb me r M (n + 1) (takeF q) w' := by
  obtain ⟨v, hv⟩ := h.hw
  obtain ⟨m, hm⟩ := hv.hm
  refine (free_any w bh n m q.1 hm hq hn).mono ?_
  rintro e w' ⟨rfl, hs, hg⟩
  exact ⟨rfl, h.of hv (hv.turned hs hg)⟩
theorem cells (h : Kid W po ph pd pm ps bh bm nb kb me r M n q w) :
    (w.cell? ⟨pd, 0, none⟩ = some (.func (.func 19) #[] #[.pointer (some ⟨po, 0, none⟩)]) ∧ pd < w.heap.size) ∧ (w.cell? ⟨ps, 0, none⟩ = some (.func (.func 21) #[] #[.pointer (some ⟨ph, 0, none⟩), .pointer (some ⟨pd, 0, none⟩), .pointer (some ⟨pm, 0, none⟩)]) ∧ ps < w.heap.size) ∧
    (w.cell? ⟨pm, 0, none⟩ = some (.int .i64 me) ∧ pm < w.heap.size) ∧ (w.cell? ⟨ph, 0, none⟩ = some (.map (some bh)) ∧ ph < w.heap.size) ∧
    (w.cell? ⟨kb, 0, none⟩ = some (.slice r.A r.n r.c) ∧ w.cell? ⟨kb, 1, none⟩ = some (.string r.sin) ∧ w.cell? ⟨kb, 2, none⟩ = some (.string r.sout) ∧ w.cell? ⟨kb, 3, none⟩ = some (.bool r.more) ∧ kb < w.heap.size) := by
  obtain ⟨v, hv⟩ := h.hw
  exact ⟨⟨hv.dc.cell 0, hv.dc.lt⟩, ⟨h.sc.cell 0, h.sc.lt⟩, ⟨hv.mc.cell 0, hv.mc.lt⟩, ⟨hv.hc.cell 0, hv.hc.lt⟩, h.sm.cell 0, h.sm.cell 1, h.sm.cell 2, h.sm.cell 3, h.sm.lt⟩
/-- The child has done its part. -/
theorem own (h : Kid W po ph pd pm ps bh bm nb kb me r M n q w) : Ow W po pd bm nb (M, q.2) w := by
  obtain ⟨v, hv⟩ := h.hw
  exact ⟨⟨v, hv.rs⟩, h.ms, hv.dc, h.lb, h.below⟩
theorem drew (h : Kid W po ph pd pm ps bh bm nb kb me r M n q w) : Kid W po ph pd pm ps bh bm nb kb me r M n q w.drew := by
  obtain ⟨v, hv⟩ := h.hw
  exact h.of hv ((hv.grow (Below.refl _ _).drew).refl.imp fun v' x => by
    obtain ⟨x1, x2, x3⟩ := x
    exact ⟨x1, (Fr.refl _ w).drew, x3⟩)
end Kid
/-- The last step's last number is set. -/
theorem Kid.mark {W w : World} {po ph pd pm ps bh bm nb kb n : Nat} {me : Int} {r : Sp} {M : Fds} {S : Fds} {l : List Stp} {x : Stp} (h : Kid W po ph pd pm ps bh bm nb kb me r M n (S, l ++ [x]) w) :
    ∃ g o c, w.cell? ⟨po, 0, none⟩ = some (.slice (some ⟨g, o, none⟩) (l.length + 1) c) ∧ po < w.heap.size ∧ g < w.heap.size ∧ w.frozen? ⟨g, o + l.length * 8 + 4, none⟩ = false ∧ (∃ u, w.cell? ⟨g, o + l.length * 8 + 4, none⟩ = some u) ∧ ∀ d : Int, Kid W po ph pd pm ps bh bm nb kb me r M n (S, l ++ [{x with c := d}]) (w.setCell ⟨g, o + l.length * 8 + 4, none⟩ (.int .i64 d)) := by
  obtain ⟨v, hv⟩ := h.hw
  have hlen : (l ++ [x]).length = l.length + 1 := by simp
  have hrow := hv.rs.row
  dsimp only at hrow
  rw [hlen] at hrow
  have hob := hv.rs.ob
  rcases hrow.2 with ⟨_, h0⟩ | ⟨g, o, c, cur, rfl, hbg, hg, hnc, hcm, hcs, hx⟩
  · omega
  have hB : Blk w g cur 32 := hg
  refine ⟨g, o, c, hob.cell 0, hob.lt, hB.lt, hB.free _, ⟨cur[o + l.length * 8 + 4]'(by omega), by rw [hB.cell, Array.getElem?_eq_getElem (by omega)]⟩, fun d => ?_⟩
  have hgp : g ≠ po := blk_ne hB hob (by decide)
  have hfl : (l.flatMap Stp.cells).length = l.length * 8 := flatR_len (cl := Stp.cells) (s := 8) (fun _ => rfl) l
  have hst := hrow.stored (j := l.length * 8 + 4) (by omega) (.int .i64 d)
  have hset : ((l ++ [x]).flatMap Stp.cells).set (l.length * 8 + 4) (.int .i64 d) = (l ++ [{x with c := d}]).flatMap Stp.cells := by
    rw [List.flatMap_append, List.flatMap_append, List.set_append_right _ _ (by omega), hfl]
    congr 1
    rw [show l.length * 8 + 4 - l.length * 8 = 4 by omega]
    rfl
  rw [hset, show o + (l.length * 8 + 4) = o + l.length * 8 + 4 by omega] at hst
  refine h.of hv ⟨.slice (some ⟨g, o, none⟩) (l.length + 1) c, ?_, ?_, fun k hk => .inl hk⟩
  · have hR : RGo w W.heap.size po (.slice (some ⟨g, o, none⟩) (l.length + 1) c) (l ++ [{x with c := d}]) (w.setCell ⟨g, o + l.length * 8 + 4, none⟩ (.int .i64 d)) :=
      ⟨_, ⟨hob.set_other (p := ⟨g, o + l.length * 8 + 4, none⟩) hgp _, by rw [List.length_append]; exact hst, hv.rs.lp⟩, (Fr.refl _ w).setCell (p := ⟨g, o + l.length * 8 + 4, none⟩) (fun _ => .inr rfl) _, fun k hk => .inl hk⟩
    obtain ⟨v2, h2, f2, o2⟩ := hv.out hR
    obtain ⟨r2ob, r2row, r2lp⟩ := h2.rs
    have e2 : Blk (w.setCell ⟨g, o + l.length * 8 + 4, none⟩ (.int .i64 d)) po #[.slice (some ⟨g, o, none⟩) (l.length + 1) c] 24 := hob.set_other (p := ⟨g, o + l.length * 8 + 4, none⟩) hgp _
    have : v2 = .slice (some ⟨g, o, none⟩) (l.length + 1) c := by
      have e3 := r2ob
      unfold Blk at e2 e3
      rw [e2] at e3
      simp at e3
      exact e3.symm
    subst this
    exact h2
  · exact (Fr.refl _ w).setCell (p := ⟨g, o + l.length * 8 + 4, none⟩) (fun _ => .inl (.inr rfl)) _
end Go.Proofs.Ytjeclmkdojnflaa
