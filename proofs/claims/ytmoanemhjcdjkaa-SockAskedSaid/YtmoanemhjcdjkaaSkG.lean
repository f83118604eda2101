/- Clone at ints and at bytes; a socket's queue or bytes turn; contract of Accept. -/
import Derived.Test.YtmoanemhjcdjkaaSkF
import Derived.Lib.SliceRun
namespace Go.Proofs.Ytmoanemhjcdjkaa
open Go.RowKit
set_option maxHeartbeats 400000
set_option linter.unusedVariables false
set_option linter.unusedSimpArgs false
theorem pu8info : (Try.prog.info? 5).map (fun i => (i.zero, i.size, i.bytes)) = some (some (.int .u8 0), 1, 1) := by kernel_rfl
theorem pi64info : (Try.prog.info? 3).map (fun i => (i.zero, i.size, i.bytes)) = some (some (.int .i64 0), 1, 8) := by kernel_rfl
theorem i64_oneCell (xs : List Int) : ∀ u ∈ xs.map (Value.int .i64), u.oneCell' = true := by
  intro u hu
  obtain ⟨x, _, rfl⟩ := List.mem_map.1 hu
  rfl
def CloneP (w : World) (n : Nat) (xs : List Int) (e : Ending) (w' : World) : Prop := ∃ v, e = .returned v ∧ Row w' w.heap.size 5 1 v n (xs.map (Value.int .u8)) ∧ Below w.heap.size w w'
def CloneI (w : World) (n : Nat) (xs : List Int) (e : Ending) (w' : World) : Prop := ∃ v, e = .returned v ∧ Row w' w.heap.size 3 1 v n (xs.map (Value.int .i64)) ∧ Below w.heap.size w w'
set_option maxRecDepth 100000 in
theorem bclone_any (A : Option Addr) (n c : Nat) (xs : List Int) (w : World) (B : Nat) (h : RB w B A n xs) (hB : B ≤ w.heap.size) (hn : n ≤ 140737488355328) :
    Calls Try.prog 34 #[.slice A n c] w (CloneP w n xs) := by
  have HL := Lib.hid h.len
  obtain ⟨i0, hi, hz0, hz1, hz2⟩ := info_parts pu8info
  have hnl := fun (w : World) (a : Option Addr) (n c n' c' : Nat) => Lib.run_eql_slice_nil (P := Try.prog) w 30 5 a n c n' c' Try.underlying30
  rcases A with _ | ⟨b, o, sp⟩
  · have h0 : n = 0 := by
      rcases Nat.eq_zero_or_pos n with h0 | h0
      · exact h0
      · obtain ⟨_, _, e, _⟩ := h.1.2 h0; cases e
    subst h0
    have hx : xs = [] := List.eq_nil_of_length_eq_zero HL.out
    subst hx
    go_enter Try.func34, Try.ntmps34
    go_wp2
    go_ret
    exact ⟨_, rfl, Row.nil _ _ _ _, Below.refl _ _⟩
  · go_enter Try.func34, Try.ntmps34
    go_wp2_with (at_builtin; refine wpList_append_row _ rfl (.tmp 5) (.tmp 6) 30 rfl w.heap.size 5 i0 (.int .u8 0) 1 1 Try.underlying30 hi hz0 hz1 hz2 rfl (by decide) (.slice (some ⟨w.heap.size, 0, none⟩) 0 0) 0 [] rfl ?c1 B (some ⟨b, o, sp⟩) n c (xs.map (Value.int .u8)) rfl ?c2 (u8_oneCell xs) ?c3 ?c4 ?c5 ?_; rotate_left; skip)
    case c1 => exact ⟨rfl, .inr ⟨w.heap.size, 0, 0, #[], rfl, Nat.le_refl _, Blk.new w #[] 5, Nat.le_refl _, by simp, by simp, fun j u hu => by simp at hu⟩⟩
    case c2 => exact Reads.alloc h.1 hB _
    case c3 => unfold maxLen; omega
    case c4 => omega
    case c5 => simp
    intro A' c' w1 hr hg _
    go_wp2
    go_ret
    exact ⟨_, rfl, by simpa using hr, ((Below.refl _ _).alloc (Nat.le_refl _) _).grown hg (by simp) (fun k hk => by simp [Value.ownBlock] at hk; omega)⟩
set_option maxRecDepth 100000 in
theorem iclone_any (A : Option Addr) (n c : Nat) (xs : List Int) (w : World) (B : Nat) (h : Reads w B 1 A n (xs.map (Value.int .i64))) (hx : xs.length = n) (hB : B ≤ w.heap.size) (hn : n ≤ 1000000) :
    Calls Try.prog 32 #[.slice A n c] w (CloneI w n xs) := by
  have HL := Lib.hid hx
  clear hx
  obtain ⟨i0, hi, hz0, hz1, hz2⟩ := info_parts pi64info
  have hnl := fun (w : World) (a : Option Addr) (n c n' c' : Nat) => Lib.run_eql_slice_nil (P := Try.prog) w 49 3 a n c n' c' Try.underlying49
  rcases A with _ | ⟨b, o, sp⟩
  · have h0 : n = 0 := by
      rcases Nat.eq_zero_or_pos n with h0 | h0
      · exact h0
      · obtain ⟨_, _, e, _⟩ := h.2 h0; cases e
    subst h0
    have hx : xs = [] := List.eq_nil_of_length_eq_zero HL.out
    subst hx
    go_enter Try.func32, Try.ntmps32
    go_wp2
    go_ret
    exact ⟨_, rfl, Row.nil _ _ _ _, Below.refl _ _⟩
  · go_enter Try.func32, Try.ntmps32
    go_wp2_with (at_builtin; refine wpList_append_row _ rfl (.tmp 5) (.tmp 6) 49 rfl w.heap.size 3 i0 (.int .i64 0) 1 8 Try.underlying49 hi hz0 hz1 hz2 rfl (by decide) (.slice (some ⟨w.heap.size, 0, none⟩) 0 0) 0 [] rfl ?c1 B (some ⟨b, o, sp⟩) n c (xs.map (Value.int .i64)) rfl ?c2 (i64_oneCell xs) ?c3 ?c4 ?c5 ?_; rotate_left; skip)
    case c1 => exact ⟨rfl, .inr ⟨w.heap.size, 0, 0, #[], rfl, Nat.le_refl _, Blk.new w #[] 3, Nat.le_refl _, by simp, by simp, fun j u hu => by simp at hu⟩⟩
    case c2 => exact Reads.alloc h hB _
    case c3 => unfold maxLen; omega
    case c4 => omega
    case c5 => simp
    intro A' c' w1 hr hg _
    go_wp2
    go_ret
    exact ⟨_, rfl, by simpa using hr, ((Below.refl _ _).alloc (Nat.le_refl _) _).grown hg (by simp) (fun k hk => by simp [Value.ownBlock] at hk; omega)⟩
theorem wpList_slice_lo {P : Program} {ops : Array Oper} {rest : List Oper} {o : Oper} {a : Act} {Q : Exit → Act → World → Prop} {w : World} (hg : o.guard = none) (t e : TypeId) (x l : Operand) (ho : o.op = .slice t x (some l) none none) (ht : P.underlying t = some (.slice e)) (vx vl : Value) (hx : a.eval x = vx) (hl : a.eval l = vl) (v : Value)
    (hrun : (Instr.slice t vx (some vl) none none).run P w = .ok v w) (h : wpList P ops Q rest (a.put o.dst v) w) : wpList P ops Q (o :: rest) a w :=
  wpList_plain hg fun K hK => by
    unfold Oper.wp execOp
    simp only [ho, hx, hl, Option.map_some, Option.map_none, Instr.sliceAt, Sem.run_bind, run_underlying ht, Result.andThen, hrun]
    exact hK _ _ h
theorem row_cut_run (P : Program) {t e : TypeId} (ht : P.underlying t = some (.slice e)) (hel : P.elem t = e) (hs : ∀ W, (sizeOf e).run P W = .ok 1 W) {w : World} {base n c : Nat} {A : Option Addr} {xs : List Value} (h : Row w base e 1 (.slice A n c) n xs) (k : Nat) (hk : k ≤ n) (hc : n ≤ c) :
    ∃ A', (∀ W, (Instr.slice t (.slice A n c) (some (.int .i64 (k : Int))) none none).run P W = .ok (.slice A' (n - k) (c - k)) W) ∧ Row w base e 1 (.slice A' (n - k) (c - k)) (n - k) (xs.drop k) := by
  refine ⟨if c = k then A else A.map (·.add (k * 1)), fun W => ?_, by simpa using h.cut hk⟩
  rw [run_slice_l (P := P) W t A n c (by rw [hel]; exact ht) .i64 k (by omega) (by omega), hel, hs]
  cases A <;> simp [sliced, Result.andThen, add_plain]
section
variable {w w9 : World} {B g : Nat} {F : Fs} {L : Nat → Sl} {i : Nat} {p p' : Sk}
/-- A socket's queue turns: what must be known. -/
theorem Re.turn_q (h : Re w B g F L) (hi : i < 16) (hp : F i = some p) (hf : Fr (fun k => (L i).q.ownBlock = some k) w w9) {v : Value} {xs : List Int} (hr : Row w9 B 3 1 v xs.length (xs.map (Value.int .i64))) (ho : ∀ k, v.ownBlock = some k → (L i).q.ownBlock = some k ∨ w.heap.size ≤ k) (hok : ({ p with q := xs } : Sk).ok) :
    Fr (L i).own w (w9.setCell ⟨(L i).b, 3, none⟩ v) ∧ One (w9.setCell ⟨(L i).b, 3, none⟩ v) B { p with q := xs } { L i with q := v } ∧ ∀ k, Sl.own { L i with q := v } k → (L i).own k ∨ w.heap.size ≤ k := by
  have o := h.ob i p hi hp
  have hlb := o.blk.lt
  have hqb : (L i).q.ownBlock ≠ some (L i).b := pp_row_blk o.q o.blk (by decide)
  have hvb : v.ownBlock ≠ some (L i).b := fun e => by
    rcases ho _ e with e2 | e2
    · exact hqb e2
    · omega
  refine ⟨(hf.mono (S' := (L i).own) fun k _ e => .inr (.inl e)).setCell (p := ⟨(L i).b, 3, none⟩) (fun _ => .inl rfl) v, ⟨?_, hr.setCell (p := ⟨(L i).b, 3, none⟩) hvb v, ?_, o.low, hok⟩, fun k hk => ?_⟩
  · exact (o.blk.fr hf hqb).set 3 v
  · exact (o.s.fr hf (fun k hk e => row_ne o.q o.s (by decide) k e hk)).setCell (p := ⟨(L i).b, 3, none⟩) (pp_row_blk o.s o.blk (by decide)) v
  · rcases hk with e | e | e
    · exact .inl (.inl e)
    · rcases ho k e with e | e
      · exact .inl (.inr (.inl e))
      · exact .inr e
    · exact .inl (.inr (.inr e))
/-- A socket's bytes turn. -/
theorem Re.turn_s (h : Re w B g F L) (hi : i < 16) (hp : F i = some p) (hf : Fr (fun k => (L i).s.ownBlock = some k) w w9) {v : Value} {xs : List Int} (hr : Row w9 B 5 1 v xs.length (xs.map (Value.int .u8))) (ho : ∀ k, v.ownBlock = some k → (L i).s.ownBlock = some k ∨ w.heap.size ≤ k) (hok : ({ p with bs := xs } : Sk).ok) :
    Fr (L i).own w (w9.setCell ⟨(L i).b, 5, none⟩ v) ∧ One (w9.setCell ⟨(L i).b, 5, none⟩ v) B { p with bs := xs } { L i with s := v } ∧ ∀ k, Sl.own { L i with s := v } k → (L i).own k ∨ w.heap.size ≤ k := by
  have o := h.ob i p hi hp
  have hlb := o.blk.lt
  have hqb : (L i).s.ownBlock ≠ some (L i).b := pp_row_blk o.s o.blk (by decide)
  have hvb : v.ownBlock ≠ some (L i).b := fun e => by
    rcases ho _ e with e2 | e2
    · exact hqb e2
    · omega
  refine ⟨(hf.mono (S' := (L i).own) fun k _ e => .inr (.inr e)).setCell (p := ⟨(L i).b, 5, none⟩) (fun _ => .inl rfl) v, ⟨?_, ?_, hr.setCell (p := ⟨(L i).b, 5, none⟩) hvb v, o.low, hok⟩, fun k hk => ?_⟩
  · exact (o.blk.fr hf hqb).set 5 v
  · exact (o.q.fr hf (fun k hk e => row_ne o.q o.s (by decide) k hk e)).setCell (p := ⟨(L i).b, 5, none⟩) (pp_row_blk o.q o.blk (by decide)) v
  · rcases hk with e | e | e
    · exact .inl (.inl e)
    · exact .inl (.inr (.inl e))
    · rcases ho k e with e | e
      · exact .inl (.inr (.inr e))
      · exact .inr e
theorem Re.new_q (h : Re w B g F L) (hB : B ≤ w.heap.size) (hi : i < 16) (hp : F i = some p) (hb : Below w.heap.size w w9) {v : Value} {xs : List Int} (hr : Row w9 w.heap.size 3 1 v xs.length (xs.map (Value.int .i64))) (hok : ({ p with q := xs } : Sk).ok) :
    RGo w B g F L (Ytmoanemhjcdjkaa.put F i (some { p with q := xs })) (w9.setCell ⟨(L i).b, 3, none⟩ v) := by
  obtain ⟨h1, h2, h3⟩ := h.turn_q hi hp ((Fr.of_grow hb).mono fun _ _ e => e.elim) (hr.base_le hB) (fun k hk => .inr (hr.lt k hk).1) hok
  exact h.put hi hp (l := { L i with q := v }) rfl h1 h2 h3
theorem Re.new_s (h : Re w B g F L) (hB : B ≤ w.heap.size) (hi : i < 16) (hp : F i = some p) (hb : Below w.heap.size w w9) {v : Value} {xs : List Int} (hr : Row w9 w.heap.size 5 1 v xs.length (xs.map (Value.int .u8))) (hok : ({ p with bs := xs } : Sk).ok) :
    RGo w B g F L (Ytmoanemhjcdjkaa.put F i (some { p with bs := xs })) (w9.setCell ⟨(L i).b, 5, none⟩ v) := by
  obtain ⟨h1, h2, h3⟩ := h.turn_s hi hp ((Fr.of_grow hb).mono fun _ _ e => e.elim) (hr.base_le hB) (fun k hk => .inr (hr.lt k hk).1) hok
  exact h.put hi hp (l := { L i with s := v }) rfl h1 h2 h3
/-- What Accept and Make answer and leave. -/
def TwoPost (w : World) (B g : Nat) (F : Fs) (L : Nat → Sl) (R : Int → Int → Fs → Prop) (e : Ending) (w' : World) : Prop := ∃ x y F', e = .returned (.tuple #[.int .i64 x, .int .i64 y]) ∧ R x y F' ∧ RGo w B g F L F' w'
theorem twoPost {R : Int → Int → Fs → Prop} {x y : Int} {F' : Fs} {w' : World} (h : R x y F') (h2 : RGo w B g F L F' w') : TwoPost w B g F L R (.returned (.tuple #[.int .i64 x, .int .i64 y])) w' := ⟨x, y, F', rfl, h, h2⟩
set_option maxRecDepth 100000 in
theorem accept_any (h : Re w B g F L) (hB : B ≤ w.heap.size) (id : Int) : Calls Try.prog 13 #[.pointer (some ⟨g, 0, none⟩), .int .i64 id] w (TwoPost w B g F L (AcceptR F id)) := by
  have HP := Lib.hid h.refl
  cases ha : at1 F id with
  | none =>
    have HF := Lib.hid (find_none h ha)
    have HR : Hid (AcceptR F id 0 4 F) := Lib.hid (.none ha)
    clear h ha
    go_enter Try.func13, Try.ntmps13
    go_wp2_with fail
    refine HF.out.mono ?_
    rintro x w' ⟨rfl, rfl⟩
    go_wp2
    go_ret2
    exact twoPost HR.out HP.out
  | some x =>
    obtain ⟨i, hi, rfl, hp⟩ := at1_some ha
    have HF := Lib.hid (find_some h hi hp)
    have o := h.ob i x hi hp
    obtain ⟨A0, n0, hv0, hn0, -⟩ := o.q.shape
    have c0 := o.blk.cell 0
    have c3 := o.blk.cell 3
    have hl := o.blk.lt
    have hf3 := o.blk.free 3
    dsimp [Sk.cells] at c0 c3
    by_cases hk : x.kind = 2
    · rw [hk] at c0
      cases hq : x.q with
      | nil =>
        have HR : Hid (AcceptR F ((i : Int) + 1) 0 9 F) := Lib.hid (.wait ha hk hq)
        rw [hv0, hq] at c3
        dsimp at c3
        clear h hp ha o hk hq
        go_enter Try.func13, Try.ntmps13
        go_wp2_with fail
        refine HF.out.mono ?_
        rintro x w' ⟨rfl, rfl⟩
        go_wp2
        go_ret2
        exact twoPost HR.out HP.out
      | cons n r =>
        have HR : Hid (AcceptR F ((i : Int) + 1) n 0 (put F i (some { x with q := r }))) := Lib.hid (.ok hi rfl hp hk hq)
        have hok := o.ok
        have oq := o.q
        rw [hv0] at oq
        obtain ⟨a, hal⟩ : ∃ a, x.q.length = a := ⟨_, rfl⟩
        have har : r.length = a - 1 := by rw [← hal, hq]; simp
        have ha0 : 0 < a := by rw [← hal, hq]; simp
        have ha4 : a ≤ 4 := by obtain ⟨-, -, -, -, -, k6, k7, -⟩ := hok; omega
        rw [hal] at oq hn0 hv0
        rw [hv0] at c3
        obtain ⟨bq, oo, rfl, -, hcells⟩ := oq.reads.2 ha0
        have cn := hcells 0 (.int .i64 n) (by rw [hq]; rfl)
        have hlq := (oq.lt bq rfl).2
        obtain ⟨A2, hsl, hrow2⟩ := row_cut_run Try.prog (t := 49) (e := 3) Try.underlying49 (by kernel_rfl) (fun W => by kernel_rfl) oq 1 ha0 hn0
        rw [← List.map_drop, hq] at hrow2
        have HSL : Hid (∀ W, (Instr.slice 49 (.slice (some ⟨bq, oo, none⟩) a n0) (some (.int .i64 1)) none none).run Try.prog W = .ok (.slice A2 (a - 1) (n0 - 1)) W) := Lib.hid hsl
        have HC := Lib.hid (iclone_any A2 (a - 1) (n0 - 1) r w w.heap.size hrow2.reads har (Nat.le_refl _) (by omega))
        have HO := Lib.hid (fun w' (hb : Below w.heap.size w w') => o.blk.fr (Fr.of_grow hb) id)
        have HFIN : Hid (∀ w2 v, Below w.heap.size w w2 → Row w2 w.heap.size 3 1 v (a - 1) (r.map (Value.int .i64)) → RGo w B g F L (put F i (some { x with q := r })) (w2.setCell ⟨(L i).b, 3, none⟩ v)) := Lib.hid (fun w2 v hb hr => h.new_q hB hi hp hb (by rw [har]; exact hr) (by
          obtain ⟨k1, k2, k3, k4, k5, k6, k7, k8⟩ := hok
          exact ⟨k1, k2, k3, k4, k5, k6, by dsimp only; rw [har]; omega, k8⟩))
        rw [Nat.add_zero] at cn
        clear h hp ha o hk hq hok oq hrow2 hsl hcells hal har hv0 HP
        go_enter Try.func13, Try.ntmps13
        go_wp2_with fail
        refine HF.out.mono ?_
        rintro e w' ⟨rfl, rfl⟩
        go_wp2_with (refine wpList_slice_lo rfl 49 3 (.tmp 37) (.const (.int .i64 1)) rfl Try.underlying49 _ _ rfl rfl _ (HSL.out _) ?_)
        go_wp2_with fail
        refine HC.out.mono ?_
        rintro e w1 ⟨v1, rfl, hr1, hb1⟩
        obtain ⟨A1, e1, rfl, -, -⟩ := hr1.shape
        have hB1 := HO.out w1 hb1
        have HG := Lib.hid (HFIN.out w1 _ hb1 hr1)
        clear c0 c3 hf3 hl cn hlq
        have c3 := hB1.cell 3
        have hf3 := hB1.free 3
        have hl := hB1.lt
        dsimp [Sk.cells] at c3
        clear hr1 hB1
        go_wp2
        go_ret2
        exact twoPost HR.out HG.out
    · have HR : Hid (AcceptR F ((i : Int) + 1) 0 8 F) := Lib.hid (.state ha hk)
      have hd3 : (x.kind != 2) = true := by simpa using hk
      clear h hp ha o hk
      go_enter Try.func13, Try.ntmps13
      go_wp2_with fail
      refine HF.out.mono ?_
      rintro x w' ⟨rfl, rfl⟩
      go_wp2
      go_ret2
      exact twoPost HR.out HP.out
end
end Go.Proofs.Ytmoanemhjcdjkaa
