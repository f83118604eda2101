/- (*words.reader).add: a part added to the reader's word (printed by mkWdH.py). -/
import Derived.Test.YtdhepkljidpigaaWdG
namespace Go.Proofs.Ytdhepkljidpigaa
open Go.RowKit
set_option maxHeartbeats 400000
set_option linter.unusedVariables false
set_option linter.unusedSimpArgs false
/-- The reader in block g: its line, its place, its parts (in blocks from B on) and what is wrong. -/
structure RdSt (w : World) (B g : Nat) (s : ByteArray) (k : Nat) (bad : Int) (A : Option Addr) (n c : Nat) (ps : List Pt) : Prop where
  blk : Blk w g #[.string s, .int .i64 k, .slice A n c, .int .i64 bad] 33
  pr : PR w B (.slice A n c) n ps
  lt : g < B
  base : B ≤ w.heap.size
def FrG (B g : Nat) (w w' : World) : Prop := Fr (fun k => k = g ∨ B ≤ k) w w'
theorem FrG.refl (B g : Nat) (w : World) : FrG B g w w := Fr.refl _ w
theorem FrG.trans {B g : Nat} {w w' w'' : World} (h : FrG B g w w') (h' : FrG B g w' w'') : FrG B g w w'' := Fr.trans' h h'
theorem FrG.drew {B g : Nat} {w w' : World} (h : FrG B g w w') : FrG B g w w'.drew := Fr.drew h
theorem FrG.of_below {B g : Nat} {w w' : World} (h : Below w.heap.size w w') (hB : B ≤ w.heap.size) : FrG B g w w' := (Fr.of_below h).mono fun k hk hs => by omega
theorem FrG.setCell {B g : Nat} {w w' : World} (h : FrG B g w w') {p : Addr} (hp : p.block = g ∨ B ≤ p.block) (u : Value) : FrG B g w (w'.setCell p u) := Fr.setCell h (p := p) (fun _ => hp) u
/-- The reader at ... in some blocks. -/
def RdAt (w : World) (B g : Nat) (s : ByteArray) (k : Nat) (bad : Int) (ps : List Pt) : Prop := ∃ A n c, RdSt w B g s k bad A n c ps
def RdPost (B g : Nat) (s : ByteArray) (k : Nat) (bad : Int) (ps : List Pt) (w : World) (e : Ending) (w' : World) : Prop := e = .returned (.tuple #[]) ∧ RdAt w' B g s k bad ps ∧ FrG B g w w'
theorem RdSt.below {w w' : World} {B g : Nat} {s : ByteArray} {k : Nat} {bad : Int} {A : Option Addr} {n c : Nat} {ps : List Pt} (h : RdSt w B g s k bad A n c ps) (hb : Below w.heap.size w w') : RdSt w' B g s k bad A n c ps :=
  ⟨h.blk.fr (Fr.of_grow hb) (fun h => h), h.pr.grow hb, h.lt, Nat.le_trans h.base hb.size⟩
theorem RdSt.drew {w : World} {B g : Nat} {s : ByteArray} {k : Nat} {bad : Int} {A : Option Addr} {n c : Nat} {ps : List Pt} (h : RdSt w B g s k bad A n c ps) : RdSt w.drew B g s k bad A n c ps :=
  ⟨h.blk.drew, ⟨h.pr.1.drew, h.pr.2⟩, h.lt, h.base⟩
/-- The place is set. -/
theorem RdSt.setAt {w : World} {B g : Nat} {s : ByteArray} {k : Nat} {bad : Int} {A : Option Addr} {n c : Nat} {ps : List Pt} (h : RdSt w B g s k bad A n c ps) (k' : Nat) : RdSt (w.setCell ⟨g, 1, none⟩ (.int .i64 k')) B g s k' bad A n c ps :=
  ⟨by simpa using h.blk.set 1 (.int .i64 k'), ⟨h.pr.1.setCell (fun e => by have e1 : B ≤ g := (h.pr.1.lt _ e).1; have := h.lt; omega) _, h.pr.2⟩, h.lt, by simpa using h.base⟩
/-- The fault is set. -/
theorem RdSt.setBad {w : World} {B g : Nat} {s : ByteArray} {k : Nat} {bad : Int} {A : Option Addr} {n c : Nat} {ps : List Pt} (h : RdSt w B g s k bad A n c ps) (b' : Int) : RdSt (w.setCell ⟨g, 3, none⟩ (.int .i64 b')) B g s k b' A n c ps :=
  ⟨by simpa using h.blk.set 3 (.int .i64 b'), ⟨h.pr.1.setCell (fun e => by have e1 : B ≤ g := (h.pr.1.lt _ e).1; have := h.lt; omega) _, h.pr.2⟩, h.lt, by simpa using h.base⟩
/-- A part appended, the slice stored. -/
theorem RdSt.app {w w2 : World} {B g : Nat} {s : ByteArray} {k : Nat} {bad : Int} {A : Option Addr} {n c : Nat} {ps : List Pt} {p : Pt} {o : Obj} {A2 : Option Addr} {c2 : Nat} (h : RdSt w B g s k bad A n c ps)
    (hr2 : Row w2 B 49 3 (.slice A2 (n + 1) c2) (n + 1) (ps.flatMap Pt.cells ++ p.cells)) (hg2 : (w.alloc o).grownBy w2 (Value.slice A n c).ownBlock) :
    Blk w2 g #[.string s, .int .i64 k, .slice A n c, .int .i64 bad] 33 ∧ RdSt (w2.setCell ⟨g, 2, none⟩ (.slice A2 (n + 1) c2)) B g s k bad A2 (n + 1) c2 (ps ++ [p]) ∧ FrG B g w (w2.setCell ⟨g, 2, none⟩ (.slice A2 (n + 1) c2)) := by
  have hlt := h.lt
  have hb := h.base
  have hf : FrG B g w w2 := (((Fr.refl (fun k => k = g ∨ B ≤ k) w).alloc o)).grown hg2 (fun k hk _ => .inr (h.pr.1.lt k hk).1)
  have hblk : Blk w2 g #[.string s, .int .i64 k, .slice A n c, .int .i64 bad] 33 := (h.blk.alloc o).fr (Fr.of_grown hg2) (fun e => by have e1 : B ≤ g := (h.pr.1.lt g e).1; omega)
  have hs := hf.size
  refine ⟨hblk, ⟨by simpa using hblk.set 2 (.slice A2 (n + 1) c2), ?_, hlt, by simp; omega⟩, hf.setCell (.inl rfl) _⟩
  refine PR.app ⟨h.pr.1.setCell (w := w) (p := ⟨g, 2, none⟩) (fun e => by have e1 : B ≤ g := (h.pr.1.lt _ e).1; omega) (.int .i64 0), h.pr.2⟩ (hr2.setCell (fun e => by have e1 : B ≤ g := (hr2.lt _ e).1; omega) _)
/-- The last part grows. -/
theorem RdSt.hit {w : World} {B g : Nat} {s : ByteArray} {k : Nat} {bad : Int} {m c b o : Nat} {ps ps' : List Pt} {t : ByteArray} {q : Bool} (h : RdSt w B g s k bad (some ⟨b, o, none⟩) (m + 1) c ps)
    (e : ps' = ps.set (m + 1 - 1) ⟨t, false, q⟩ ∧ (ps.flatMap Pt.cells).set ((m + 1 - 1) * 3) (.string t) = ps'.flatMap Pt.cells) : RdPost B g s k bad ps' w (.returned (.tuple #[])) (w.setCell ⟨b, o + m * 3, none⟩ (.string t)) := by
  have hl := h.pr.1.lt b rfl
  have hlt := h.lt
  refine ⟨rfl, ⟨_, _, _, h.blk.set_other (by simp; omega) _, ⟨?_, by rw [e.1, List.length_set]; exact h.pr.2⟩, hlt, by simpa using h.base⟩, (FrG.refl B g w).setCell (.inr hl.1) _⟩
  rw [← e.2]
  exact h.pr.1.stored (by omega) _
set_option maxHeartbeats 1000000 in
set_option maxRecDepth 100000 in
theorem add_any (B g : Nat) (s : ByteArray) (k : Nat) (bad : Int) (A : Option Addr) (n c : Nat) (ps : List Pt) (t : ByteArray) (q : Bool) (w : World) (h : RdSt w B g s k bad A n c ps) (hf : Few 1000 ps) (ht : t.size ≤ 1000) :
    Calls Try.prog 22 #[.pointer (some ⟨g, 0, none⟩), .string t, .bool q] w (RdPost B g s k bad (addP ps t q) w) := by
  obtain ⟨i0, hi, hz0, hz1, hz2⟩ := info_parts infoPt
  have hn : n ≤ 1000 := by have := hf.1; have := h.pr.2; omega
  have hB := h.base
  have hgc := h.blk.cell
  have hglt := h.blk.lt
  have hgf := h.blk.free
  by_cases h0 : 0 < n
  · obtain ⟨m, rfl⟩ : ∃ m, n = m + 1 := ⟨n - 1, by omega⟩
    obtain ⟨b, o, rfl, hb, hm, hcs⟩ := RS.at_ (cl := Pt.cells) (s := 3) (fun _ => rfl) Pt.zero h.pr.rs (i := m) (by omega)
    have y0 := hcs 0 _ rfl
    have y1 := hcs 1 _ rfl
    have y2 := hcs 2 _ rfl
    clear hcs
    have hpt := hf.2 _ hm
    obtain ⟨p, hpp⟩ : ∃ p, ps.getD m .zero = p := ⟨_, rfl⟩
    have HP := Lib.hid hpp
    rw [hpp] at y0 y1 y2 hpt
    clear hpp hm
    obtain ⟨pt, pv, pq⟩ := p
    dsimp only at y0 y1 y2 hpt
    have hm1 : ((m + 1 : Nat) : Int) - 1 = m := by omega
    have hm2 : (m : Int) < ((m + 1 : Nat) : Int) := by omega
    have H := Lib.hid h
    clear h
    cases pv with
    | true =>
      · have e := Lib.hid (addP_miss (t := t) (q := q) H.out.pr.2 HP.out (by simp))
        have hr1 := H.out.pr.1
        go_enter Try.func22, Try.ntmps22
        go_wp2_with (at_builtin; refine wpList_append_row _ rfl (.tmp 56) (.tmp 60) 31 rfl B 49 i0 (.agg #[.string ⟨#[]⟩, .bool false, .bool false]) 3 24 Try.underlying31 hi hz0 hz1 hz2 rfl (by decide) (.slice (some ⟨b, o, none⟩) (m + 1) c) (m + 1) (ps.flatMap Pt.cells) rfl (hr1.alloc _) (w.heap.size + 1) (some ⟨w.heap.size, 0, none⟩) 1 1 (Pt.cells ⟨t, false, q⟩) rfl (reads_cells w (Pt.cells ⟨t, false, q⟩) 49 rfl) (pt_oneCell _) (by unfold maxLen; omega) (by omega) (by simp; omega) ?_)
        intro A2 c2 w2 hr2 hg2 ho2
        obtain ⟨hk2, hr3, hf3⟩ := RdSt.app H.out hr2 hg2
        have hp := Lib.hid (show RdPost B g s k bad (addP ps t q) w _ _ from ⟨rfl, ⟨_, _, _, e.out ▸ hr3⟩, hf3⟩)
        have hlt2 := hk2.lt
        have hkc2 := hk2.cell
        have hfr2 := hk2.free
        clear hr2 hg2 ho2 hr3 hf3 hk2
        go_wp2
        refine bodyPost_ret (v := .tuple #[]) (by simp [results, Try.results22, go_sem]) rfl ?_
        exact hp.out
    | false =>
      by_cases hq : pq = q
      · have hq' := hq.symm; clear hq; subst hq'
        · have e := Lib.hid (addP_hit (t := t) H.out.pr.2 (by omega) HP.out rfl rfl)
          clear HP
          have hfr := row_free H.out.pr.1
          have hsz2 : ¬ 9223372036854775807 < pt.size + t.size := by omega
          rw [Nat.add_zero] at y0
          go_enter Try.func22, Try.ntmps22
          go_wp2
          refine bodyPost_ret (v := .tuple #[]) (by simp [results, Try.results22, go_sem]) rfl ?_
          exact H.out.hit e.out
      · have hqb : (pq == q) = false := by simpa using hq
        · have e := Lib.hid (addP_miss (t := t) (q := q) H.out.pr.2 HP.out (by simp [hq]))
          clear hq
          have hr1 := H.out.pr.1
          go_enter Try.func22, Try.ntmps22
          go_wp2_with (at_builtin; refine wpList_append_row _ rfl (.tmp 56) (.tmp 60) 31 rfl B 49 i0 (.agg #[.string ⟨#[]⟩, .bool false, .bool false]) 3 24 Try.underlying31 hi hz0 hz1 hz2 rfl (by decide) (.slice (some ⟨b, o, none⟩) (m + 1) c) (m + 1) (ps.flatMap Pt.cells) rfl (hr1.alloc _) (w.heap.size + 1) (some ⟨w.heap.size, 0, none⟩) 1 1 (Pt.cells ⟨t, false, q⟩) rfl (reads_cells w (Pt.cells ⟨t, false, q⟩) 49 rfl) (pt_oneCell _) (by unfold maxLen; omega) (by omega) (by simp; omega) ?_)
          intro A2 c2 w2 hr2 hg2 ho2
          obtain ⟨hk2, hr3, hf3⟩ := RdSt.app H.out hr2 hg2
          have hp := Lib.hid (show RdPost B g s k bad (addP ps t q) w _ _ from ⟨rfl, ⟨_, _, _, e.out ▸ hr3⟩, hf3⟩)
          have hlt2 := hk2.lt
          have hkc2 := hk2.cell
          have hfr2 := hk2.free
          clear hr2 hg2 ho2 hr3 hf3 hk2
          go_wp2
          refine bodyPost_ret (v := .tuple #[]) (by simp [results, Try.results22, go_sem]) rfl ?_
          exact hp.out
  · obtain rfl : n = 0 := by omega
    obtain rfl : ps = [] := List.eq_nil_of_length_eq_zero h.pr.2
    have H := Lib.hid h
    clear h
    · have e := Lib.hid (show addP [] t q = [] ++ [⟨t, false, q⟩] from rfl)
      have hr1 := H.out.pr.1
      go_enter Try.func22, Try.ntmps22
      go_wp2_with (at_builtin; refine wpList_append_row _ rfl (.tmp 56) (.tmp 60) 31 rfl B 49 i0 (.agg #[.string ⟨#[]⟩, .bool false, .bool false]) 3 24 Try.underlying31 hi hz0 hz1 hz2 rfl (by decide) (.slice A (0) c) (0) [] rfl (hr1.alloc _) (w.heap.size + 1) (some ⟨w.heap.size, 0, none⟩) 1 1 (Pt.cells ⟨t, false, q⟩) rfl (reads_cells w (Pt.cells ⟨t, false, q⟩) 49 rfl) (pt_oneCell _) (by unfold maxLen; omega) (by omega) (by simp; omega) ?_)
      intro A2 c2 w2 hr2 hg2 ho2
      obtain ⟨hk2, hr3, hf3⟩ := RdSt.app H.out hr2 hg2
      have hp := Lib.hid (show RdPost B g s k bad (addP [] t q) w _ _ from ⟨rfl, ⟨_, _, _, e.out ▸ hr3⟩, hf3⟩)
      have hlt2 := hk2.lt
      have hkc2 := hk2.cell
      have hfr2 := hk2.free
      clear hr2 hg2 ho2 hr3 hf3 hk2
      go_wp2
      refine bodyPost_ret (v := .tuple #[]) (by simp [results, Try.results22, go_sem]) rfl ?_
      exact hp.out
end Go.Proofs.Ytdhepkljidpigaa
