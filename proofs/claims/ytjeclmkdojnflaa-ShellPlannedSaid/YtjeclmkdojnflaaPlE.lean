/- Contract of what a child does. -/
import Derived.Test.YtjeclmkdojnflaaPlD
import Derived.Deep.DeepCutAuto
import Derived.Deep.CutBlock
namespace Go.Proofs.Ytjeclmkdojnflaa
open Go.RowKit
set_option maxHeartbeats 400000
set_option linter.unusedVariables false
set_option linter.unusedSimpArgs false
def smC (A : Option Addr) (n c : Nat) (s : Smp) : Array Value := #[.slice A n c, .string s.sin, .string s.sout, .bool s.more]
/-- The child's world at first. -/
def chW (W : World) (p : Nat) (me : Int) (q : Pst) (A : Option Addr) (n c : Nat) (s : Smp) : World := (W.alloc (.cells (mkC p me q.1) 57)).alloc (.cells (smC A n c s) 49)
theorem chW_mk {W : World} {B g p : Nat} {v : Value} {who : Int} {q : Pst} (me : Int) (A : Option Addr) (n c : Nat) (s : Smp) (h : Mk W B g p v who q) : Mk (chW W p me q A n c s) B W.heap.size p v me q :=
  ⟨(Blk.new W _ _).alloc _, (h.sb.alloc _).alloc _, (h.row.alloc _).alloc _, h.low, h.lp⟩
theorem chW_sm (W : World) (p : Nat) (me : Int) (q : Pst) (A : Option Addr) (n c : Nat) (s : Smp) : Blk (chW W p me q A n c s) (W.heap.size + 1) (smC A n c s) 49 := by
  have := Blk.new (W.alloc (.cells (mkC p me q.1) 57)) (smC A n c s) 49
  simpa [chW] using this
theorem CGo.of {W w3 : World} {B g p : Nat} {v : Value} {who me : Int} {q q3 : Pst} {A : Option Addr} {n c : Nat} {s : Smp} (h : Mk W B g p v who q) (h3 : MGo (chW W p me q A n c s) B W.heap.size p v me q3 w3) : CGo W B g p v who (q.1, q3.2) w3 := by
  obtain ⟨v3, m3, f3, o3⟩ := h3
  have hf : Fr (fun k => k = p ∨ v.ownBlock = some k) W w3 := by
    refine Fr.trans (S := fun k => k = p ∨ v.ownBlock = some k) (((Fr.refl _ W).alloc _).alloc _) f3 (fun k hk e => ?_)
    rcases e with e | e | e
    · omega
    · exact .inl e
    · exact .inr e
  refine ⟨v3, ⟨h.mb.fr hf (fun e => ?_), m3.sb, m3.row, h.lg, h.lp⟩, hf, fun k hk => ?_⟩
  · rcases e with e | e
    · exact blk_ne h.mb h.sb (by decide) e
    · exact row_blk h.row h.mb (by decide) e
  · rcases o3 k hk with e | e
    · exact .inl e
    · exact .inr (by simp [chW] at e; omega)
/-- Between the child's steps. -/
structure Cs (W : World) (B p : Nat) (v : Value) (me : Int) (q : Pst) (A : Option Addr) (n c : Nat) (s : Smp) (qx : Pst) (w : World) : Prop where
  go : MGo (chW W p me q A n c s) B W.heap.size p v me qx w
  sm : Blk w (W.heap.size + 1) (smC A n c s) 49
theorem Cs.step {W w w' : World} {B p : Nat} {v v1 : Value} {me : Int} {q : Pst} {A : Option Addr} {n c : Nat} {s : Smp} {qx qy : Pst} (m1 : Mk w B W.heap.size p v1 me qx) (f1 : Fr (MF W.heap.size p v) (chW W p me q A n c s) w) (o1 : ∀ k, v1.ownBlock = some k → v.ownBlock = some k ∨ (chW W p me q A n c s).heap.size ≤ k) (hs : Blk w (W.heap.size + 1) (smC A n c s) 49) (h : MGo w B W.heap.size p v1 me qy w') : Cs W B p v me q A n c s qy w' := by
  refine ⟨MGo.comp f1 o1 h, ?_⟩
  obtain ⟨v2, _, f2, _⟩ := h
  exact m1.keep hs (by decide) (by decide) (by decide) f2
theorem text_empty (b : ByteArray) : b.toList.isEmpty = decide (b.size = 0) := by
  rw [ByteArray.toList_eq]
  rcases b with ⟨⟨l⟩⟩
  cases l <;> simp [ByteArray.size]
namespace Cs
variable {W w : World} {B p : Nat} {v : Value} {me : Int} {q qx : Pst} {A : Option Addr} {n c : Nat} {s : Smp}
theorem turn (h : Cs W B p v me q A n c s qx w) {fr tq : Int} (hl : qx.2.length ≤ 8900) (hq : Low qx.1) (hfr : fr < 8) (hto : 0 ≤ tq ∧ tq < 8) :
    Calls Try.prog 33 #[.pointer (some ⟨W.heap.size, 0, none⟩), .int .i64 fr, .int .i64 tq] w fun e w' => e = .returned (.tuple #[]) ∧ Cs W B p v me q A n c s (turnF me fr tq qx) w' := by
  obtain ⟨⟨v1, m1, f1, o1⟩, hs⟩ := h
  refine (turn_any w B _ p v1 me fr tq qx m1 hl hq hfr hto).mono ?_
  rintro e w' ⟨rfl, hG⟩
  exact ⟨rfl, step m1 f1 o1 hs hG⟩
theorem file (h : Cs W B p v me q A n c s qx w) {name : ByteArray} {tq mode flags : Int} (hl : qx.2.length ≤ 8000) (hq : Low qx.1) (hto : 0 ≤ tq ∧ tq < 8) :
    Calls Try.prog 34 #[.pointer (some ⟨W.heap.size, 0, none⟩), .string name, .int .i64 tq, .int .i64 mode, .int .i64 flags] w fun e w' => e = .returned (.tuple #[]) ∧ Cs W B p v me q A n c s (fileF me name tq mode flags qx) w' := by
  obtain ⟨⟨v1, m1, f1, o1⟩, hs⟩ := h
  refine (file_any w B _ p v1 me name tq mode flags qx m1 hl hq hto).mono ?_
  rintro e w' ⟨rfl, hG⟩
  exact ⟨rfl, step m1 f1 o1 hs hG⟩
theorem exec (h : Cs W B p v me q A n c s qx w) {num a b d : Int} {name : ByteArray} (hl : qx.2.length ≤ 10000) :
    Calls Try.prog 15 #[.pointer (some ⟨W.heap.size, 0, none⟩), .agg #[.int .i64 num, .int .i64 a, .int .i64 b, .int .i64 d, .string name, .string ByteArray.empty, .slice none 0 0]] w fun e w' => e = .returned (.tuple #[]) ∧ Cs W B p v me q A n c s (qx.1, qx.2 ++ [⟨me, num, a, b, d, name⟩]) w' := by
  obtain ⟨⟨v1, m1, f1, o1⟩, hs⟩ := h
  refine (step_any w B _ p v1 me qx num a b d name m1 hl).mono ?_
  rintro e w' ⟨rfl, hG⟩
  exact ⟨rfl, step m1 f1 o1 hs hG⟩
theorem fr (h : Cs W B p v me q A n c s qx w) : Fr (MF W.heap.size p v) (chW W p me q A n c s) w := h.go.elim fun _ x => x.2.1
end Cs
def RetC (W : World) (B g p : Nat) (v : Value) (who : Int) (q : Pst) (e : Ending) (w' : World) : Prop := e = .returned (.tuple #[]) ∧ CGo W B g p v who q w'
theorem retc {W w' : World} {B g p : Nat} {v : Value} {who : Int} {q : Pst} (h : CGo W B g p v who q w') : RetC W B g p v who q (.returned (.tuple #[])) w' := ⟨rfl, h⟩
set_option maxHeartbeats 2000000 in
set_option maxRecDepth 100000 in
theorem child_any (W : World) (B g p : Nat) (v : Value) (who me inn out other : Int) (A : Option Addr) (n c : Nat) (ts : List ByteArray) (s : Smp) (q : Pst) (h : Mk W B g p v who q) (hs : Sm W B A n ts s) (hnc : n ≤ c) (hl : q.2.length ≤ 7000) (hq : Low q.1) (hi : inn < 8) (ho : out < 8) (hot : other < 8) :
    Calls Try.prog 17 #[.agg (mkC p who q.1), .int .i64 me, .agg #[.slice A n c, .string s.sin, .string s.sout, .bool s.more], .int .i64 inn, .int .i64 out, .int .i64 other] W (RetC W B g p v who (q.1, (childF me s inn out other q).2)) := by
  obtain ⟨b, o, u, rfl, hbB, hu, hcell⟩ := hs.rd.at_ hs.pos
  have hM := chW_mk me (some ⟨b, o, none⟩) n c s h
  have hK := chW_sm W p me q (some ⟨b, o, none⟩) n c s
  have HC := Lib.hid (fun q3 w3 h3 => CGo.of (w3 := w3) (q3 := q3) (me := me) (A := some ⟨b, o, none⟩) (n := n) (c := c) (s := s) h h3)
  have HS := Lib.hid (shut_any _ B _ p v me other q hM (by omega) hq hot)
  have hM0 := hM.refl
  obtain ⟨v0, m0, f0, o0⟩ := hM0
  unfold chW smC at HS
  have hu' : u = .string s.a0 := by
    rw [hs.a0]
    rw [List.getElem?_map] at hu
    cases ht : ts[0]? with
    | none => rw [ht] at hu; cases hu
    | some t => rw [ht] at hu; simp at hu; rw [List.getD_eq_getElem?_getD, ht]; exact hu.symm
  subst hu'
  have hBW := h.low
  have HA : Hid (∀ qx wx, Cs W B p v me q (some ⟨b, o, none⟩) n c s qx wx → b < wx.heap.size ∧ wx.cell? ⟨b, o, none⟩ = some (.string s.a0)) := Lib.hid (fun qx wx hx => by
    have hf : Fr (fun k => B ≤ k) W wx := Fr.trans (S := fun k => B ≤ k) (((Fr.refl _ W).alloc _).alloc _) hx.fr (fun k hk e => by
      rcases e with e | e | e
      · omega
      · have := h.lp; omega
      · exact (h.row.lt k e).1)
    exact ⟨Nat.lt_of_lt_of_le (by omega) hf.size, (hf.cell (p := ⟨b, o, none⟩) (by show b < _; omega) (by show ¬ B ≤ b; omega)).trans hcell⟩)
  have hn0 := hs.pos
  clear h hs hu hcell
  go_enter Try.func17, Try.ntmps17
  go_wp2_with fail
  refine HS.out.mono ?_
  rintro e w1 ⟨rfl, hG1⟩
  have h1 : Cs W B p v me q (some ⟨b, o, none⟩) n c s (shutF me other q) w1 := Cs.step hM (Fr.refl _ _) (fun k hk => .inl hk) hK hG1
  clear hG1 hM hK HS
  go_wp2_with fail
  refine (h1.turn (by have := shutF_len me other q; omega) (shutF_low hq) hi (by omega)).mono ?_
  rintro e w2 ⟨rfl, h2⟩
  clear h1
  go_wp2_with fail
  refine (h2.turn (by have := shutF_len me other q; have := turnF_len me inn 0 (shutF me other q); omega) (turnF_low (shutF_low hq) (by omega)) ho (by omega)).mono ?_
  rintro e w3 ⟨rfl, h3'⟩
  have h3 : Cs W B p v me q (some ⟨b, o, none⟩) n c s (linkF me inn out other q) w3 := h3'
  clear h2 h3'
  have hl3 := linkF_len me inn out other q
  have hq3 := linkF_low (me := me) (inn := inn) (out := out) (other := other) hq
  have HE : Hid ((childF me s inn out other q).2 = (outF me s (inF me s (linkF me inn out other q))).2 ++ [⟨me, 3, 0, 0, 0, s.a0⟩]) := Lib.hid rfl
  clear hi ho hot
  generalize linkF me inn out other q = q3 at *
  have c1 := h3.sm.cell 1
  have c0 := h3.sm.cell 0
  have c2 := h3.sm.cell 2
  have c3 := h3.sm.cell 3
  have lk := h3.sm.lt
  dsimp [smC] at c0 c1 c2 c3
  have HN := Lib.hid hnc
  clear hnc
  go_upto_if 23 with (fail)
  by_cases hin : s.sin.size = 0
  case' neg =>
    have e1 : (!s.sin.toList.isEmpty) = true := by rw [text_empty]; simpa using hin
    rw [e1]
    go_wp2_with fail
    refine (h3.file (by omega) hq3 (by omega)).mono ?_
    rintro e w4 ⟨rfl, h4'⟩
    have h4 : Cs W B p v me q (some ⟨b, o, none⟩) n c s (inF me s q3) w4 := by unfold inF; rw [if_neg hin]; exact h4'
    clear h3 h4' c0 c1 c2 c3 lk
    have c1 := h4.sm.cell 1
    have c0 := h4.sm.cell 0
    have c2 := h4.sm.cell 2
    have c3 := h4.sm.cell 3
    have lk := h4.sm.lt
    dsimp [smC] at c0 c1 c2 c3
    go_upto_if 29 with (fail)
  case' pos =>
    have e1 : (!s.sin.toList.isEmpty) = false := by rw [text_empty]; simpa using hin
    rw [e1]
    have h4 : Cs W B p v me q (some ⟨b, o, none⟩) n c s (inF me s q3) w3 := by unfold inF; rw [if_pos hin]; exact h3
    clear h3
    go_upto_if 29 with (fail)
  all_goals
    clear e1 hin
    have hl4 := inF_len me s q3
    have hq4 := inF_low (me := me) (s := s) hq3
    generalize inF me s q3 = q4 at *
    clear hq3
    by_cases hout : s.sout.size = 0
    · have e2 : (!s.sout.toList.isEmpty) = false := by rw [text_empty]; simpa using hout
      rw [e2]
      have hE5 : outF me s q4 = q4 := by unfold outF; rw [if_pos hout]
      have h5 := h4
      rw [← hE5] at h5
      clear hE5
      have hl5 := outF_len me s q4
      obtain ⟨hbw, hca⟩ := HA.out _ _ h5
      clear hout
      go_wp2_with fail
      refine (h5.exec (by omega)).mono ?_
      rintro e w6 ⟨rfl, h6⟩
      have HP := Lib.hid (HC.out _ _ h6.go)
      rw [← HE.out] at HP
      go_wp2
      exact bodyPost_ret (v := .tuple #[]) (by simp [results, Try.results17, go_sem]) rfl (retc HP.out)
    · have e2 : (!s.sout.toList.isEmpty) = true := by rw [text_empty]; simpa using hout
      rw [e2]
      obtain ⟨mo, hmo⟩ : ∃ m, s.more = m := ⟨_, rfl⟩
      have hE2 : outF me s q4 = fileF me s.sout 1 2 (if mo then 9 else 5) q4 := by unfold outF; rw [if_neg hout, hmo]
      rw [hmo] at c3
      have HE2 := Lib.hid hE2
      have HMO := Lib.hid hmo
      clear hE2 hmo hout
      cases mo
      all_goals
        go_wp2_with fail
        refine (h4.file (by omega) hq4 (by omega)).mono ?_
        rintro e w5 ⟨rfl, h5'⟩
        have h5 : Cs W B p v me q (some ⟨b, o, none⟩) n c s (outF me s q4) w5 := by rw [HE2.out]; exact h5'
        clear h4 h5' c0 c1 c2 c3 lk
        have c0 := h5.sm.cell 0
        have lk := h5.sm.lt
        dsimp [smC] at c0
        have hl5 := outF_len me s q4
        obtain ⟨hbw, hca⟩ := HA.out _ _ h5
        go_wp2_with fail
        refine (h5.exec (by omega)).mono ?_
        rintro e w6 ⟨rfl, h6⟩
        have HP := Lib.hid (HC.out _ _ h6.go)
        rw [← HE.out] at HP
        go_wp2
        exact bodyPost_ret (v := .tuple #[]) (by simp [results, Try.results17, go_sem]) rfl (retc HP.out)
end Go.Proofs.Ytjeclmkdojnflaa
