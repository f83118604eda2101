/- A part added to a word: plain; ringref4.joined. -/
import Derived.Test.YtdhepkljidpigaaWdF
import Derived.Test.YtdhepkljidpigaaOwnC
namespace Go.Proofs.Ytdhepkljidpigaa
open Go.RowKit
set_option maxHeartbeats 400000
set_option linter.unusedVariables false
set_option linter.unusedSimpArgs false
/-! append onto an empty literal (memory only grows) -/
theorem run_append_lit0 {P : Program} (w : World) (base : Nat) (t ty e : TypeId) (i : TypeInfo) (z : Value) (size bytes : Nat) (ht : P.underlying t = some (.slice e)) (hi : P.info? e = some i) (hz : i.zero = some z)
    (hsize : i.size = size) (hby : i.bytes = bytes) (hzs : z.cells.size = size) (hsz : 0 < size) (g : Nat) (hown : Row w base e size (.slice (some ⟨g, 0, none⟩) 0 0) 0 [])
    (B : Nat) (A : Option Addr) (m c : Nat) (news : List Value) (hr : Reads w B size A m news)
    (h63 : m ≤ maxLen) (hbytes : m * bytes ≤ 140737488355328) (hbase : base ≤ w.heap.size) :
    ∃ A' c' w', (Builtin.append_ #[t, t] ty #[.slice (some ⟨g, 0, none⟩) 0 0, .slice A m c]).run P w = .ok (.slice A' m c') w' ∧ Row w' base e size (.slice A' m c') m news ∧ w.grownBy w' none := by
  subst hsize
  subst hby
  rcases Nat.eq_zero_or_pos m with h0 | h0
  · subst h0
    have hn : news = [] := List.eq_nil_of_length_eq_zero (by simpa using hr.1)
    subst hn
    refine ⟨some ⟨g, 0, none⟩, 0, w, ?_, hown, World.grownBy.refl w _⟩
    cases A <;> simp [Builtin.append_, run_underlying ht, sizeOf, typeInfo, hi, Builtin.lenOf, Builtin.firstCells, storeCells, loadCells, loadCellsFrom]
  · obtain ⟨b, o', rfl, _, hc⟩ := hr.2 h0
    have hnews : ∀ j u, news[j]? = some u → w.cell? ((⟨b, o', none⟩ : Addr).add j) = some u := fun j u hu => by rw [add_plain]; exact hc j u hu
    have hsmall : m ≤ 9223372036854775807 := by simp only [maxLen] at h63; omega
    have hru := run_append_grow (P := P) w t ty e i z ht hi hz ⟨g, 0, none⟩ 0 0 [] (by simp) (fun j u hu => by simp at hu) ⟨b, o', none⟩ m c news hr.1 hnews (by omega) (by omega) (growslice_fits (by omega) (by simpa using hbytes))
    simp only [Nat.zero_add, List.nil_append, Array.empty_append] at hru
    have hge := grownCap_ge w m 0 e
    have hcm : grownCap w m 0 e ≤ maxLen := grownCap_le_maxLen w m 0 e h63
    refine ⟨_, _, _, hru, ⟨hr.1, .inr ⟨w.heap.size, 0, _, _, rfl, hbase, heap_alloc_new w.drew _, hge, hcm, ?_, fun j u hu => ?_⟩⟩, ⟨rfl, rfl, rfl, by simp, fun k hk _ => heap_alloc_old w.drew _ hk⟩⟩
    · simp only [Array.size_append, List.size_toArray, size_zeroCells, hzs, hr.1, Array.size_empty, Nat.zero_add, ← Nat.add_mul]
      exact Nat.le_of_eq (by congr 1; omega)
    · have hj : j < news.length := (List.getElem?_eq_some_iff.1 hu).1
      simp only [Nat.zero_add]
      rw [Array.getElem?_append_left (by simpa using hj)]
      simpa using hu
theorem wpList_append_lit0 {P : Program} (w : World) {ops : Array Oper} {rest : List Oper} {o : Oper} {a : Act} {Q : Exit → Act → World → Prop} (hgd : o.guard = none) (s x : Operand) (t : TypeId)
    (ho : o.op = .call { callee := .builtin .append, args := #[s, x], argTypes := #[t, t] })
    (base : Nat) (e : TypeId) (i : TypeInfo) (z : Value) (size bytes : Nat) (ht : P.underlying t = some (.slice e)) (hi : P.info? e = some i) (hz : i.zero = some z)
    (hsize : i.size = size) (hby : i.bytes = bytes) (hzs : z.cells.size = size) (hsz : 0 < size) (g : Nat) (hs : a.eval s = .slice (some ⟨g, 0, none⟩) 0 0) (hown : Row w base e size (.slice (some ⟨g, 0, none⟩) 0 0) 0 [])
    (B : Nat) (A : Option Addr) (m c : Nat) (news : List Value) (hx : a.eval x = .slice A m c) (hr : Reads w B size A m news)
    (h63 : m ≤ maxLen) (hbytes : m * bytes ≤ 140737488355328) (hbase : base ≤ w.heap.size)
    (h : ∀ A' c' w', Row w' base e size (.slice A' m c') m news → Below w.heap.size w w' → wpList P ops Q rest (a.put o.dst (.slice A' m c')) w') : wpList P ops Q (o :: rest) a w :=
  wpList_plain hgd fun K hK => by
    obtain ⟨A', c', w', hrun, h2, h3⟩ := run_append_lit0 (P := P) w base t o.type e i z size bytes ht hi hz hsize hby hzs hsz g hown B A m c news hr h63 hbytes hbase
    unfold Oper.wp execOp
    simp only [ho, resolve, invoke, builtin, Sem.run_bind, Sem.run_pure, Result.andThen_ok, List.map_toArray, List.map_cons, List.map_nil, hs, hx, hrun]
    exact hK _ _ (h A' c' w' h2 ⟨h3.os, h3.tape, h3.output, h3.size, fun k hk => h3.block k hk (fun e => by cases e)⟩)
/-! plain -/
/-- A part behind others; plain text beside plain text is one. -/
def addP (ps : List Pt) (t : ByteArray) (q : Bool) : List Pt :=
  if 0 < ps.length ∧ (ps.getD (ps.length - 1) .zero).var = false ∧ (ps.getD (ps.length - 1) .zero).quoted = q then ps.set (ps.length - 1) ⟨(ps.getD (ps.length - 1) .zero).text ++ t, false, q⟩ else ps ++ [⟨t, false, q⟩]
theorem set_text : ∀ (ps : List Pt) (i : Nat) (t : ByteArray), i < ps.length → (ps.flatMap Pt.cells).set (i * 3) (.string t) = (ps.set i ⟨t, (ps.getD i .zero).var, (ps.getD i .zero).quoted⟩).flatMap Pt.cells
  | p :: ps, 0, t, _ => rfl
  | p :: ps, i + 1, t, h => by
    have ih := set_text ps i t (by simpa using h)
    rw [List.set_cons_succ, List.flatMap_cons, List.flatMap_cons, show (i + 1) * 3 = p.cells.length + i * 3 by rw [Pt.cells_len]; omega, List.set_append_right _ _ (by omega)]
    simp only [Nat.add_sub_cancel_left, ih]
    rfl
theorem addP_hit {ps : List Pt} {n : Nat} {p : Pt} {t : ByteArray} {q : Bool} (hl : ps.length = n) (h0 : 0 < n) (hp : ps.getD (n - 1) .zero = p) (h1 : p.var = false) (h2 : p.quoted = q) : addP ps t q = ps.set (n - 1) ⟨p.text ++ t, false, q⟩ ∧ (ps.flatMap Pt.cells).set ((n - 1) * 3) (.string (p.text ++ t)) = (addP ps t q).flatMap Pt.cells := by
  subst hl
  have e : addP ps t q = ps.set (ps.length - 1) ⟨p.text ++ t, false, q⟩ := by
    unfold addP
    rw [hp, if_pos ⟨h0, h1, h2⟩]
  refine ⟨e, ?_⟩
  rw [e, set_text _ _ _ (by omega), hp, h1, h2]
theorem addP_miss {ps : List Pt} {n : Nat} {p : Pt} {t : ByteArray} {q : Bool} (hl : ps.length = n) (hp : ps.getD (n - 1) .zero = p) (h : ¬ (0 < n ∧ p.var = false ∧ p.quoted = q)) : addP ps t q = ps ++ [⟨t, false, q⟩] := by
  subst hl
  unfold addP
  rw [hp, if_neg h]
/-- A word's parts as a slice of the call's own. -/
def PR (w : World) (B : Nat) (v : Value) (n : Nat) (ps : List Pt) : Prop := Row w B 49 3 v n (ps.flatMap Pt.cells) ∧ ps.length = n
theorem PR.rs {w : World} {B n c : Nat} {A : Option Addr} {ps : List Pt} (h : PR w B (.slice A n c) n ps) : RS Pt.cells 3 w w.heap.size A n ps := ⟨h.1.reads, h.2⟩
/-- Few parts, and short ones. -/
def Few (k : Nat) (ps : List Pt) : Prop := ps.length ≤ k ∧ ∀ p ∈ ps, p.text.size ≤ k
theorem Few.add {k j : Nat} {ps : List Pt} (h : Few k ps) (t : ByteArray) (q : Bool) (h1 : t.size ≤ j) (h2 : 0 < j) : Few (k + j) (addP ps t q) := by
  unfold addP
  split
  · refine ⟨by rw [List.length_set]; have := h.1; omega, fun p hp => ?_⟩
    rcases List.mem_or_eq_of_mem_set hp with hp | rfl
    · have := h.2 p hp; omega
    · rename_i hc
      have hm : ps.getD (ps.length - 1) .zero ∈ ps := by
        rw [List.getD_eq_getElem?_getD, List.getElem?_eq_getElem (by omega)]
        exact List.getElem_mem _
      have := h.2 _ hm
      simp only [ByteArray.size_append]; omega
  · refine ⟨by have := h.1; simp; omega, fun p hp => ?_⟩
    rcases List.mem_append.1 hp with hp | hp
    · have := h.2 p hp; omega
    · simp at hp; subst hp; simp; omega
theorem Few.more {k j : Nat} {ps : List Pt} (h : Few k ps) (hj : k ≤ j) : Few j ps := ⟨Nat.le_trans h.1 hj, fun p hp => Nat.le_trans (h.2 p hp) hj⟩
theorem Few.snoc {k j : Nat} {ps : List Pt} (h : Few k ps) (p : Pt) (h1 : p.text.size ≤ j) (h2 : 0 < j) : Few (k + j) (ps ++ [p]) :=
  ⟨by have := h.1; simp; omega, fun x hx => by
    rcases List.mem_append.1 hx with hx | hx
    · have := h.2 x hx; omega
    · simp at hx; subst hx; omega⟩
def FrB (B : Nat) (w w' : World) : Prop := Fr (fun k => B ≤ k) w w'
def JPost (B : Nat) (ps : List Pt) (w : World) (e : Ending) (w' : World) : Prop := ∃ A n c, e = .returned (.slice A n c) ∧ PR w' B (.slice A n c) n ps ∧ FrB B w w'
theorem reads_cells (w : World) (cs : List Value) (t : TypeId) {size m : Nat} (h : cs.length = m * size) : Reads (w.alloc (.cells cs.toArray t)) (w.heap.size + 1) size (some ⟨w.heap.size, 0, none⟩) m cs :=
  ⟨h, fun _ => ⟨w.heap.size, 0, rfl, by omega, fun j u hu => by
    rw [Nat.zero_add, (Blk.new w cs.toArray t).cell]; simpa using hu⟩⟩
theorem infoPt : (Try.prog.info? 49).map (fun i => (i.zero, i.size, i.bytes)) = some (some (.agg #[.string ⟨#[]⟩, .bool false, .bool false]), 3, 24) := by kernel_rfl
theorem pt_oneCell (p : Pt) : ∀ u ∈ p.cells, u.oneCell' = true := by
  intro u hu
  simp [Pt.cells] at hu
  rcases hu with rfl | rfl | rfl <;> rfl
theorem PR.fr {S : Nat → Prop} {w w' : World} {B n : Nat} {v : Value} {ps : List Pt} (h : PR w B v n ps) (hf : Fr S w w') (hn : ∀ k, v.ownBlock = some k → ¬ S k) : PR w' B v n ps := ⟨h.1.fr hf hn, h.2⟩
theorem PR.grow {w w' : World} {B n : Nat} {v : Value} {ps : List Pt} (h : PR w B v n ps) (hf : Below w.heap.size w w') : PR w' B v n ps := ⟨h.1.grow hf, h.2⟩
theorem FrB.refl (B : Nat) (w : World) : FrB B w w := Fr.refl _ w
theorem FrB.of_below {B : Nat} {w w' : World} (h : Below w.heap.size w w') (hB : B ≤ w.heap.size) : FrB B w w' := (Fr.of_below h).mono fun k hk hs => by omega
theorem FrB.trans {B : Nat} {w w' w'' : World} (h : FrB B w w') (h' : FrB B w' w'') : FrB B w w'' := Fr.trans' h h'
theorem PR.app {w w' : World} {B n c : Nat} {A : Option Addr} {ps : List Pt} {p : Pt} {A' : Option Addr} {c' : Nat} (h : PR w B (.slice A n c) n ps) (hr : Row w' B 49 3 (.slice A' (n + 1) c') (n + 1) (ps.flatMap Pt.cells ++ p.cells)) : PR w' B (.slice A' (n + 1) c') (n + 1) (ps ++ [p]) := by
  refine ⟨?_, by simp [h.2]⟩
  rw [List.flatMap_append]
  simpa using hr
theorem grown_frB {w w' : World} {B n : Nat} {v : Value} {xs : List Value} (h : Row w B 49 3 v n xs) (hg : w.grownBy w' v.ownBlock) (hB : B ≤ w.heap.size) : FrB B w w' := by
  refine (Fr.of_grown hg).mono fun k hk hs => (h.lt k hs).1
theorem join_miss {w w1 w2 : World} {B n c : Nat} {A : Option Addr} {ps : List Pt} {t : ByteArray} {q : Bool} {o : Obj} {A2 : Option Addr} {c2 : Nat} (h : PR w B (.slice A n c) n ps) (hb1 : Below w.heap.size w w1) (hB : B ≤ w.heap.size)
    (hr2 : Row w2 B 49 3 (.slice A2 (n + 1) c2) (n + 1) (ps.flatMap Pt.cells ++ Pt.cells ⟨t, false, q⟩)) (hg2 : (w1.alloc o).grownBy w2 (Value.slice A n c).ownBlock) (e : addP ps t q = ps ++ [⟨t, false, q⟩]) : JPost B (addP ps t q) w (.returned (.slice A2 (n + 1) c2)) w2 := by
  have hs := hb1.size
  have h1 := (h.grow hb1).1.alloc o
  have f1 : FrB B w (w1.alloc o) := FrB.of_below (hb1.alloc hs o) hB
  refine ⟨A2, n + 1, c2, rfl, ?_, f1.trans (grown_frB h1 hg2 (by simp; omega))⟩
  rw [e]
  exact h.app hr2
theorem row_lit0 (w : World) (base : Nat) (e : TypeId) (size : Nat) (hb : base ≤ w.heap.size) : Row (w.alloc (.cells #[] e)) base e size (.slice (some ⟨w.heap.size, 0, none⟩) 0 0) 0 [] :=
  ⟨by simp, .inr ⟨w.heap.size, 0, 0, #[], rfl, hb, heap_alloc_new w _, Nat.le_refl _, by simp, by simp, fun j u hu => by simp at hu⟩⟩
theorem row_free {w : World} {base : Nat} {e : TypeId} {size n c g o : Nat} {xs : List Value} (h : Row w base e size (.slice (some ⟨g, o, none⟩) n c) n xs) (j : Nat) : w.frozen? ⟨g, j, none⟩ = false := by
  rcases h.2 with ⟨e', _⟩ | ⟨g', o', cap, cur, e', _, hg, _⟩
  · injection e' with e1; cases e1
  · injection e' with e1 e2 e3
    injection e1 with e1
    injection e1 with e1 e4
    subst e1
    exact Blk.free (show Blk w g cur e from hg) j
theorem join_hit {w w2 : World} {B m c g o c2 : Nat} {A : Option Addr} {ps ps' : List Pt} {t : ByteArray} {q : Bool} (h : PR w B (.slice A (m + 1) c) (m + 1) ps)
    (hr2 : Row w2 B 49 3 (.slice (some ⟨g, o, none⟩) (m + 1) c2) (m + 1) (ps.flatMap Pt.cells)) (hb : Below w.heap.size w w2) (hB : B ≤ w.heap.size)
    (e : ps' = ps.set (m + 1 - 1) ⟨t, false, q⟩ ∧ (ps.flatMap Pt.cells).set ((m + 1 - 1) * 3) (.string t) = ps'.flatMap Pt.cells) : JPost B ps' w (.returned (.slice (some ⟨g, o, none⟩) (m + 1) c2)) (w2.setCell ⟨g, o + m * 3, none⟩ (.string t)) := by
  have hl := hr2.lt g rfl
  refine ⟨_, _, _, rfl, ⟨?_, by rw [e.1, List.length_set]; exact h.2⟩, ?_⟩
  · rw [← e.2]
    exact hr2.stored (by omega) _
  · exact (FrB.of_below hb hB).trans ((Fr.refl (fun k => B ≤ k) w2).setCell (p := ⟨g, o + m * 3, none⟩) (fun _ => hl.1) _)
theorem JPost.drew {B : Nat} {ps : List Pt} {w w' : World} {e : Ending} (h : JPost B ps w e w') : JPost B ps w e w'.drew := by
  obtain ⟨A, n, c, rfl, h1, h2⟩ := h
  exact ⟨A, n, c, rfl, ⟨h1.1.drew, h1.2⟩, Fr.drew h2⟩
set_option maxHeartbeats 1000000 in
set_option maxRecDepth 100000 in
theorem joined_any (B : Nat) (A : Option Addr) (n c : Nat) (ps : List Pt) (t : ByteArray) (q : Bool) (w : World) (h : PR w B (.slice A n c) n ps) (hB : B ≤ w.heap.size) (hf : Few 1000 ps) (ht : t.size ≤ 1000) :
    Calls Try.prog 24 #[.slice A n c, .agg #[.string t, .bool false, .bool q]] w (JPost B (addP ps t q) w) := by
  obtain ⟨i0, hi, hz0, hz1, hz2⟩ := info_parts infoPt
  have hn : n ≤ 1000 := by have := hf.1; have := h.2; omega
  have hx0 := Blk.new w #[.string t, .bool false, .bool q] 49
  have hc0 := hx0.cell
  have hlt := hx0.lt
  by_cases h0 : 0 < n
  · obtain ⟨m, rfl⟩ : ∃ m, n = m + 1 := ⟨n - 1, by omega⟩
    obtain ⟨b, o, rfl, hb, hm, hcs⟩ := RS.at_ (cl := Pt.cells) (s := 3) (fun _ => rfl) Pt.zero h.rs (i := m) (by omega)
    have y0 := hcs 0 _ rfl
    have y1 := hcs 1 _ rfl
    have y2 := hcs 2 _ rfl
    clear hcs
    have hpt := hf.2 _ hm
    obtain ⟨p, hpp⟩ : ∃ p, ps.getD m .zero = p := ⟨_, rfl⟩
    have HP := Lib.hid hpp
    rw [hpp] at y0 y1 y2 hpt
    clear hpp hm
    obtain ⟨pt, pv, pq⟩ := p
    dsimp only at y0 y1 y2 hpt
    have hm1 : ((m + 1 : Nat) : Int) - 1 = m := by omega
    have hm2 : (m : Int) < ((m + 1 : Nat) : Int) := by omega
    have H := Lib.hid h
    clear h
    cases pv with
    | true =>
      · have e := Lib.hid (addP_miss (t := t) (q := q) H.out.2 HP.out (by simp))
        go_enter Try.func24, Try.ntmps24
        go_wp2_with fail
        refine wp_region_quiet_lit (by kernel_rfl) (by kernel_rfl) ?_
        repeat (go_big_quiet_step (fail))
        refine wpQuiet_nil ?_
        rintro w1 ⟨k, hw1⟩
        have k0 : ∀ j, w1.cell? ⟨w.heap.size, j, none⟩ = #[Value.string t, .bool false, .bool q][j]? := fun j => by rw [hw1]; exact hc0 j
        have klt : w.heap.size < w1.heap.size := by rw [hw1]; simp
        have hb1 : Below w.heap.size w w1 := by rw [hw1]; exact below_drewN ((Below.refl _ _).alloc (Nat.le_refl _) _) _
        clear hw1 hc0 hlt hx0
        have H1 := Lib.hid (H.out.grow hb1)
        have hr1 := H1.out.1
        have hs1 := hb1.size
        go_wp2_with (at_builtin; refine wpList_append_row _ rfl (.tmp 51) (.tmp 53) 31 rfl B 49 i0 (.agg #[.string ⟨#[]⟩, .bool false, .bool false]) 3 24 Try.underlying31 hi hz0 hz1 hz2 rfl (by decide) (.slice (some ⟨b, o, none⟩) (m + 1) c) (m + 1) (ps.flatMap Pt.cells) rfl (hr1.alloc _) (w1.heap.size + 1) (some ⟨w1.heap.size, 0, none⟩) 1 1 (Pt.cells ⟨t, false, q⟩) rfl (reads_cells w1 (Pt.cells ⟨t, false, q⟩) 49 rfl) (pt_oneCell _) (by unfold maxLen; omega) (by omega) (by simp; omega) ?_)
        intro A2 c2 w2 hr2 hg2 ho2
        have hj := Lib.hid (join_miss H.out hb1 hB hr2 hg2 e.out)
        clear hr2 hg2 ho2
        go_wp2
        go_ret
        exact hj.out
    | false =>
      by_cases hq : pq = q
      · have hq' := hq.symm; clear hq; subst hq'
        · have e := Lib.hid (addP_hit (t := t) H.out.2 (by omega) HP.out rfl rfl)
          have hpp := HP
          clear HP
          go_enter Try.func24, Try.ntmps24
          go_wp2_with fail
          refine wp_region_quiet_lit (by kernel_rfl) (by kernel_rfl) ?_
          repeat (go_big_quiet_step (fail))
          refine wpQuiet_nil ?_
          rintro w1 ⟨k, hw1⟩
          have k0 : ∀ j, w1.cell? ⟨w.heap.size, j, none⟩ = #[Value.string t, .bool false, .bool q][j]? := fun j => by rw [hw1]; exact hc0 j
          have klt : w.heap.size < w1.heap.size := by rw [hw1]; simp
          have hb1 : Below w.heap.size w w1 := by rw [hw1]; exact below_drewN ((Below.refl _ _).alloc (Nat.le_refl _) _) _
          clear hw1 hc0 hlt hx0
          have H1 := Lib.hid (H.out.grow hb1)
          have hr1 := H1.out.1
          have hs1 := hb1.size
          have z0 := (hb1.cell (p := ⟨b, o + m * 3 + 0, none⟩) hb).trans y0
          clear y0 y1 y2
          go_wp2_with (at_builtin; refine wpList_append_lit0 _ rfl (.tmp 36) (.tmp 37) 31 rfl B 49 i0 (.agg #[.string ⟨#[]⟩, .bool false, .bool false]) 3 24 Try.underlying31 hi hz0 hz1 hz2 rfl (by decide) w1.heap.size rfl (row_lit0 w1 B 49 3 (by omega)) (w1.heap.size + 1) (some ⟨b, o, none⟩) (m + 1) c (ps.flatMap Pt.cells) rfl ((hr1.alloc _).reads.more (by simp)) (by unfold maxLen; omega) (by omega) (by simp; omega) ?_)
          intro A2 c2 w2 hr2 hb2
          obtain ⟨b2, o2, rfl, hlt2, hm2, hcs2⟩ := RS.at_ (cl := Pt.cells) (s := 3) (fun _ => rfl) Pt.zero (show RS Pt.cells 3 w2 w2.heap.size A2 (m + 1) ps from ⟨hr2.reads, H.out.2⟩) (i := m) (by omega)
          have hz0 := hcs2 0 _ rfl
          rw [hpp.out] at hz0
          dsimp only at hz0
          clear hm2 hcs2
          have q0 := (hb2.cell (p := ⟨w.heap.size, 0, none⟩) (by simp; omega)).trans ((World.cell?_alloc_lt w1 (.cells #[] 49) ⟨w.heap.size, 0, none⟩ klt).trans (k0 0))
          have qlt : w.heap.size < w2.heap.size := by have := hb2.size; simp at this; omega
          have hfr := row_free hr2
          have H2 := Lib.hid hr2
          have hs2 := Lib.hid (hb1.trans ((((Below.refl w1.heap.size w1).alloc (Nat.le_refl _) (.cells #[] 49)).trans (hb2.mono (by simp))).mono hs1))
          clear hr2 hb2 k0 z0 hr1
          have hsz1 : pt.size + t.size ≤ 9223372036854775807 := by omega
          have hsz2 : ¬ 9223372036854775807 < pt.size + t.size := by omega
          rw [Nat.add_zero] at hz0
          go_wp2_with fail
          go_region
          all_goals
            try go_wp2
            go_ret
            exact (join_hit H.out H2.out hs2.out hB e.out).drew
      · have hqb : (pq == q) = false := by simpa using hq
        · have e := Lib.hid (addP_miss (t := t) (q := q) H.out.2 HP.out (by simp [hq]))
          clear hq
          go_enter Try.func24, Try.ntmps24
          go_wp2_with fail
          refine wp_region_quiet_lit (by kernel_rfl) (by kernel_rfl) ?_
          repeat (go_big_quiet_step (fail))
          refine wpQuiet_nil ?_
          rintro w1 ⟨k, hw1⟩
          have k0 : ∀ j, w1.cell? ⟨w.heap.size, j, none⟩ = #[Value.string t, .bool false, .bool q][j]? := fun j => by rw [hw1]; exact hc0 j
          have klt : w.heap.size < w1.heap.size := by rw [hw1]; simp
          have hb1 : Below w.heap.size w w1 := by rw [hw1]; exact below_drewN ((Below.refl _ _).alloc (Nat.le_refl _) _) _
          clear hw1 hc0 hlt hx0
          have H1 := Lib.hid (H.out.grow hb1)
          have hr1 := H1.out.1
          have hs1 := hb1.size
          go_wp2_with (at_builtin; refine wpList_append_row _ rfl (.tmp 51) (.tmp 53) 31 rfl B 49 i0 (.agg #[.string ⟨#[]⟩, .bool false, .bool false]) 3 24 Try.underlying31 hi hz0 hz1 hz2 rfl (by decide) (.slice (some ⟨b, o, none⟩) (m + 1) c) (m + 1) (ps.flatMap Pt.cells) rfl (hr1.alloc _) (w1.heap.size + 1) (some ⟨w1.heap.size, 0, none⟩) 1 1 (Pt.cells ⟨t, false, q⟩) rfl (reads_cells w1 (Pt.cells ⟨t, false, q⟩) 49 rfl) (pt_oneCell _) (by unfold maxLen; omega) (by omega) (by simp; omega) ?_)
          intro A2 c2 w2 hr2 hg2 ho2
          have hj := Lib.hid (join_miss H.out hb1 hB hr2 hg2 e.out)
          clear hr2 hg2 ho2
          go_wp2
          go_ret
          exact hj.out
  · obtain rfl : n = 0 := by omega
    obtain rfl : ps = [] := List.eq_nil_of_length_eq_zero h.2
    have H := Lib.hid h
    clear h
    · have e := Lib.hid (show addP [] t q = [] ++ [⟨t, false, q⟩] from rfl)
      go_enter Try.func24, Try.ntmps24
      go_wp2_with fail
      refine wp_region_quiet_lit (by kernel_rfl) (by kernel_rfl) ?_
      repeat (go_big_quiet_step (fail))
      refine wpQuiet_nil ?_
      rintro w1 ⟨k, hw1⟩
      have k0 : ∀ j, w1.cell? ⟨w.heap.size, j, none⟩ = #[Value.string t, .bool false, .bool q][j]? := fun j => by rw [hw1]; exact hc0 j
      have klt : w.heap.size < w1.heap.size := by rw [hw1]; simp
      have hb1 : Below w.heap.size w w1 := by rw [hw1]; exact below_drewN ((Below.refl _ _).alloc (Nat.le_refl _) _) _
      clear hw1 hc0 hlt hx0
      have H1 := Lib.hid (H.out.grow hb1)
      have hr1 := H1.out.1
      have hs1 := hb1.size
      go_wp2_with (at_builtin; refine wpList_append_row _ rfl (.tmp 51) (.tmp 53) 31 rfl B 49 i0 (.agg #[.string ⟨#[]⟩, .bool false, .bool false]) 3 24 Try.underlying31 hi hz0 hz1 hz2 rfl (by decide) (.slice A (0) c) (0) [] rfl (hr1.alloc _) (w1.heap.size + 1) (some ⟨w1.heap.size, 0, none⟩) 1 1 (Pt.cells ⟨t, false, q⟩) rfl (reads_cells w1 (Pt.cells ⟨t, false, q⟩) 49 rfl) (pt_oneCell _) (by unfold maxLen; omega) (by omega) (by simp; omega) ?_)
      intro A2 c2 w2 hr2 hg2 ho2
      have hj := Lib.hid (join_miss H.out hb1 hB hr2 hg2 e.out)
      clear hr2 hg2 ho2
      go_wp2
      go_ret
      exact hj.out
end Go.Proofs.Ytdhepkljidpigaa
