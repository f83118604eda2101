/- Contracts of the sockets' Name, Hear, joined, Shut, Tell. -/
import Derived.Test.YtmoanemhjcdjkaaSkD
namespace Go.Proofs.Ytmoanemhjcdjkaa
open Go.RowKit
set_option maxHeartbeats 400000
set_option linter.unusedVariables false
set_option linter.unusedSimpArgs false
def ptr1 (F : Fs) (L : Nat → Sl) (id : Int) : Value := match at1 F id with | none => .pointer none | some _ => .pointer (some ⟨(L (id - 1).toNat).b, 0, none⟩)
section
variable {w : World} {B g : Nat} {F : Fs} {L : Nat → Sl} {i : Nat} {p p' : Sk}
theorem ptr1_of (hi : i < 16) (hp : F i = some p) : ptr1 F L ((i : Int) + 1) = .pointer (some ⟨(L i).b, 0, none⟩) := by
  unfold ptr1
  rw [at1_of hi, hp]
  simp
theorem ptr1_none {id : Int} (h : at1 F id = none) : ptr1 F L id = .pointer none := by unfold ptr1; rw [h]
theorem find_any (h : Re w B g F L) (id : Int) : Calls Try.prog 29 #[.pointer (some ⟨g, 0, none⟩), .int .i64 id] w fun e w' => e = .returned (ptr1 F L id) ∧ w = w' := by
  cases ha : at1 F id with
  | none => rw [ptr1_none ha]; exact find_none h ha
  | some p =>
    obtain ⟨i, hi, rfl, hp⟩ := at1_some ha
    rw [ptr1_of hi hp]; exact find_some h hi hp
theorem Re.poke1 (h : Re w B g F L) (hi : i < 16) (hp : F i = some p) {j : Nat} {u : Value} (hb : (p.cells (L i)).setIfInBounds j u = p'.cells (L i)) (hq : p'.q = p.q) (hs : p'.bs = p.bs) (hok : p'.ok) :
    RGo w B g F L (Ytmoanemhjcdjkaa.put F i (some p')) (w.setCell ⟨(L i).b, j, none⟩ u) :=
  h.poke hi hp ((Fr.refl (fun k => k = (L i).b) w).setCell (p := ⟨(L i).b, j, none⟩) (fun _ => rfl) _) (hb ▸ (h.ob i p hi hp).blk.set j u) hq hs hok
theorem Re.poke2 (h : Re w B g F L) (hi : i < 16) (hp : F i = some p) {j j' : Nat} {u u' : Value} (hb : ((p.cells (L i)).setIfInBounds j u).setIfInBounds j' u' = p'.cells (L i)) (hq : p'.q = p.q) (hs : p'.bs = p.bs) (hok : p'.ok) :
    RGo w B g F L (Ytmoanemhjcdjkaa.put F i (some p')) ((w.setCell ⟨(L i).b, j, none⟩ u).setCell ⟨(L i).b, j', none⟩ u') :=
  h.poke hi hp (((Fr.refl (fun k => k = (L i).b) w).setCell (p := ⟨(L i).b, j, none⟩) (fun _ => rfl) _).setCell (p := ⟨(L i).b, j', none⟩) (fun _ => rfl) _) (hb ▸ ((h.ob i p hi hp).blk.set j u).set j' u') hq hs hok
theorem Re.poke3 (h : Re w B g F L) (hi : i < 16) (hp : F i = some p) {j j' j'' : Nat} {u u' u'' : Value} (hb : (((p.cells (L i)).setIfInBounds j u).setIfInBounds j' u').setIfInBounds j'' u'' = p'.cells (L i)) (hq : p'.q = p.q) (hs : p'.bs = p.bs) (hok : p'.ok) :
    RGo w B g F L (Ytmoanemhjcdjkaa.put F i (some p')) (((w.setCell ⟨(L i).b, j, none⟩ u).setCell ⟨(L i).b, j', none⟩ u').setCell ⟨(L i).b, j'', none⟩ u'') :=
  h.poke hi hp ((((Fr.refl (fun k => k = (L i).b) w).setCell (p := ⟨(L i).b, j, none⟩) (fun _ => rfl) _).setCell (p := ⟨(L i).b, j', none⟩) (fun _ => rfl) _).setCell (p := ⟨(L i).b, j'', none⟩) (fun _ => rfl) _) (hb ▸ (((h.ob i p hi hp).blk.set j u).set j' u').set j'' u'') hq hs hok
/-- What Name answers and leaves. -/
def NamePost (w : World) (B g : Nat) (F : Fs) (L : Nat → Sl) (R : Int → Fs → Prop) (e : Ending) (w' : World) : Prop := ∃ x F', e = .returned (.int .i64 x) ∧ R x F' ∧ RGo w B g F L F' w'
theorem namePost {R : Int → Fs → Prop} {x : Int} {F' : Fs} {w' : World} (h : R x F') (h2 : RGo w B g F L F' w') : NamePost w B g F L R (.returned (.int .i64 x)) w' := ⟨x, F', rfl, h, h2⟩
set_option maxRecDepth 100000 in
theorem name_any (h : Re w B g F L) (id port : Int) : Calls Try.prog 7 #[.pointer (some ⟨g, 0, none⟩), .int .i64 id, .int .i64 port] w (NamePost w B g F L (NameR F id port)) := by
  have HP := Lib.hid h.refl
  by_cases h1 : port < 1
  · have hd : decide (port < 1) = true := by simpa using h1
    have HR : Hid (NameR F id port 1 F) := Lib.hid (.arg (.inl h1))
    clear h h1
    go_enter Try.func7, Try.ntmps7
    go_wp2
    go_ret
    exact namePost HR.out HP.out
  have hd : decide (port < 1) = false := by simpa using h1
  by_cases h2 : 99 < port
  · have hd2 : decide (99 < port) = true := by simpa using h2
    have HR : Hid (NameR F id port 1 F) := Lib.hid (.arg (.inr h2))
    clear h h1 h2
    go_enter Try.func7, Try.ntmps7
    go_wp2
    go_ret
    exact namePost HR.out HP.out
  have hd2 : decide (99 < port) = false := by simpa using h2
  have hport : 1 ≤ port ∧ port ≤ 99 := by omega
  obtain ⟨V, hV, hV2⟩ : ∃ v : Int × Option Addr, Hid (Calls Try.prog 30 #[.pointer (some ⟨g, 0, none⟩), .int .i64 port] w fun e w' => e = .returned (.tuple #[.int .i64 v.1, .pointer v.2]) ∧ w = w') ∧ Hid ((noName F port ∧ v.2 = none) ∨ ∃ k a, namedAt F port k ∧ v.2 = some a) := by
    rcases named_or F port with hn | ⟨k, hn⟩
    · exact ⟨(0, none), Lib.hid (named_none h hn), Lib.hid (.inl ⟨hn, rfl⟩)⟩
    · exact ⟨((k : Int) + 1, some ⟨(L k).b, 0, none⟩), Lib.hid (named_some h hn), Lib.hid (.inr ⟨k, _, hn, rfl⟩)⟩
  obtain ⟨v1, v2⟩ := V
  dsimp only at hV hV2
  cases ha : at1 F id with
  | none =>
    have HF := Lib.hid (find_none h ha)
    have HR : Hid (NameR F id port 4 F) := Lib.hid (.none hport ha)
    clear h h1 h2 ha hport hV2
    go_enter Try.func7, Try.ntmps7
    go_wp2_with fail
    refine HF.out.mono ?_
    rintro x w' ⟨rfl, rfl⟩
    go_wp2_with fail
    refine hV.out.mono ?_
    rintro x w' ⟨rfl, rfl⟩
    go_wp2
    go_ret
    exact namePost HR.out HP.out
  | some x =>
    obtain ⟨i, hi, rfl, hp⟩ := at1_some ha
    have HF := Lib.hid (find_some h hi hp)
    have o := h.ob i x hi hp
    have c0 := o.blk.cell 0
    have c1 := o.blk.cell 1
    have hl := o.blk.lt
    have hf0 := o.blk.free 0
    have hf1 := o.blk.free 1
    dsimp [Sk.cells] at c0 c1
    by_cases hk : x.kind = 0
    · rcases hV2.out with ⟨hn, rfl⟩ | ⟨k, a, hn, rfl⟩
      · have HR : Hid (NameR F ((i : Int) + 1) port 0 (put F i (some { x with kind := 1, port := port }))) := Lib.hid (.ok hport hi rfl hp hk hn)
        have HG : Hid (RGo w B g F L (put F i (some { x with kind := 1, port := port })) ((w.setCell ⟨(L i).b, 0, none⟩ (.int .i64 1)).setCell ⟨(L i).b, 1, none⟩ (.int .i64 port))) :=
          Lib.hid (h.poke2 hi hp (by rfl) rfl rfl (by obtain ⟨o1, o2, o3, o4, o5⟩ := o.ok; exact ⟨by dsimp only; decide, by dsimp only; omega, by dsimp only; omega, by dsimp only; omega, o5⟩))
        rw [hk] at c0
        clear h h1 h2 ha hp o hk hn hport hV2 HP
        go_enter Try.func7, Try.ntmps7
        go_wp2_with fail
        refine HF.out.mono ?_
        rintro x w' ⟨rfl, rfl⟩
        go_wp2_with fail
        refine hV.out.mono ?_
        rintro x w' ⟨rfl, rfl⟩
        go_wp2
        go_ret
        exact namePost HR.out HG.out
      · have HR : Hid (NameR F ((i : Int) + 1) port 5 F) := Lib.hid (.there hport ha hk hn)
        rw [hk] at c0
        clear h h1 h2 ha hp o hk hn hport hV2
        go_enter Try.func7, Try.ntmps7
        go_wp2_with fail
        refine HF.out.mono ?_
        rintro x w' ⟨rfl, rfl⟩
        go_wp2_with fail
        refine hV.out.mono ?_
        rintro x w' ⟨rfl, rfl⟩
        go_wp2
        go_ret
        exact namePost HR.out HP.out
    · have HR : Hid (NameR F ((i : Int) + 1) port 8 F) := Lib.hid (.state hport ha hk)
      have hd3 : (x.kind != 0) = true := by simpa using hk
      clear h h1 h2 ha hp o hk hport hV2
      go_enter Try.func7, Try.ntmps7
      go_wp2_with fail
      refine HF.out.mono ?_
      rintro x w' ⟨rfl, rfl⟩
      go_wp2_with fail
      refine hV.out.mono ?_
      rintro x w' ⟨rfl, rfl⟩
      go_wp2
      go_ret
      exact namePost HR.out HP.out
set_option maxRecDepth 100000 in
theorem hear_any (h : Re w B g F L) (hv : Inv F) (id many : Int) : Calls Try.prog 9 #[.pointer (some ⟨g, 0, none⟩), .int .i64 id, .int .i64 many] w (NamePost w B g F L (HearR F id many)) := by
  have HP := Lib.hid h.refl
  by_cases h1 : many < 1
  · have hd : decide (many < 1) = true := by simpa using h1
    have HR : Hid (HearR F id many 1 F) := Lib.hid (.arg (.inl h1))
    clear h h1
    go_enter Try.func9, Try.ntmps9
    go_wp2
    go_ret
    exact namePost HR.out HP.out
  have hd : decide (many < 1) = false := by simpa using h1
  by_cases h2 : 4 < many
  · have hd2 : decide (4 < many) = true := by simpa using h2
    have HR : Hid (HearR F id many 1 F) := Lib.hid (.arg (.inr h2))
    clear h h1 h2
    go_enter Try.func9, Try.ntmps9
    go_wp2
    go_ret
    exact namePost HR.out HP.out
  have hd2 : decide (4 < many) = false := by simpa using h2
  have hport : 1 ≤ many ∧ many ≤ 4 := by omega
  cases ha : at1 F id with
  | none =>
    have HF := Lib.hid (find_none h ha)
    have HR : Hid (HearR F id many 4 F) := Lib.hid (.none hport ha)
    clear h h1 h2 ha hport
    go_enter Try.func9, Try.ntmps9
    go_wp2_with fail
    refine HF.out.mono ?_
    rintro x w' ⟨rfl, rfl⟩
    go_wp2
    go_ret
    exact namePost HR.out HP.out
  | some x =>
    obtain ⟨i, hi, rfl, hp⟩ := at1_some ha
    have HF := Lib.hid (find_some h hi hp)
    have o := h.ob i x hi hp
    have c0 := o.blk.cell 0
    have c2 := o.blk.cell 2
    have hl := o.blk.lt
    have hf0 := o.blk.free 0
    have hf2 := o.blk.free 2
    dsimp [Sk.cells] at c0 c2
    by_cases hk : x.kind = 1
    · have HR : Hid (HearR F ((i : Int) + 1) many 0 (put F i (some { x with kind := 2, many := many }))) := Lib.hid (.ok hport hi rfl hp hk)
      have hq : x.q = [] := by
        cases e : x.q with
        | nil => rfl
        | cons k r =>
          have := (hv.queue i x k hi hp (by rw [e]; simp)).1
          omega
      have HG : Hid (RGo w B g F L (put F i (some { x with kind := 2, many := many })) ((w.setCell ⟨(L i).b, 0, none⟩ (.int .i64 2)).setCell ⟨(L i).b, 2, none⟩ (.int .i64 many))) :=
        Lib.hid (h.poke2 hi hp (by rfl) rfl rfl (by obtain ⟨o1, o2, o3, o4, o5, o6, o7, o8⟩ := o.ok; exact ⟨by dsimp only; decide, by dsimp only; omega, o3, o4, by dsimp only; omega, by dsimp only; omega, by dsimp only; rw [hq]; simp; omega, o8⟩))
      rw [hk] at c0
      clear h h1 h2 ha hp o hk hport HP hq hv
      go_enter Try.func9, Try.ntmps9
      go_wp2_with fail
      refine HF.out.mono ?_
      rintro x w' ⟨rfl, rfl⟩
      go_wp2
      go_ret
      exact namePost HR.out HG.out
    · have HR : Hid (HearR F ((i : Int) + 1) many 8 F) := Lib.hid (.state hport ha hk)
      have hd3 : (x.kind != 1) = true := by simpa using hk
      clear h h1 h2 ha hp o hk hport hv
      go_enter Try.func9, Try.ntmps9
      go_wp2_with fail
      refine HF.out.mono ?_
      rintro x w' ⟨rfl, rfl⟩
      go_wp2
      go_ret
      exact namePost HR.out HP.out
theorem joined_none (h : Re w B g F L) {id : Int} (ha : at1 F id = none) : Calls Try.prog 33 #[.pointer (some ⟨g, 0, none⟩), .int .i64 id] w fun e w' => e = .returned (.tuple #[.pointer none, .pointer none, .int .i64 4]) ∧ w = w' := by
  have HF := Lib.hid (find_none h ha)
  clear h ha
  go_enter Try.func33, Try.ntmps33
  go_wp2_with fail
  refine HF.out.mono ?_
  rintro x w' ⟨rfl, rfl⟩
  go_wp2
  exact bodyPost_ret (v := .tuple #[.pointer none, .pointer none, .int .i64 4]) (by simp [results, Try.results33, go_sem]) rfl ⟨rfl, rfl⟩
theorem joined_state (h : Re w B g F L) (hi : i < 16) (hp : F i = some p) (hk : p.kind ≠ 3) : Calls Try.prog 33 #[.pointer (some ⟨g, 0, none⟩), .int .i64 ((i : Int) + 1)] w fun e w' => e = .returned (.tuple #[.pointer none, .pointer none, .int .i64 8]) ∧ w = w' := by
  have HF := Lib.hid (find_some h hi hp)
  have o := h.ob i p hi hp
  have c0 := o.blk.cell 0
  have hl := o.blk.lt
  have hd3 : (p.kind != 3) = true := by simpa using hk
  dsimp [Sk.cells] at c0
  clear h hp o hk
  go_enter Try.func33, Try.ntmps33
  go_wp2_with fail
  refine HF.out.mono ?_
  rintro x w' ⟨rfl, rfl⟩
  go_wp2
  exact bodyPost_ret (v := .tuple #[.pointer none, .pointer none, .int .i64 8]) (by simp [results, Try.results33, go_sem]) rfl ⟨rfl, rfl⟩
theorem joined_ok (h : Re w B g F L) (hi : i < 16) (hp : F i = some p) (hk : p.kind = 3) : Calls Try.prog 33 #[.pointer (some ⟨g, 0, none⟩), .int .i64 ((i : Int) + 1)] w fun e w' => e = .returned (.tuple #[.pointer (some ⟨(L i).b, 0, none⟩), ptr1 F L p.peer, .int .i64 0]) ∧ w = w' := by
  have HF := Lib.hid (find_some h hi hp)
  have HG := Lib.hid (find_any h p.peer)
  have o := h.ob i p hi hp
  have c0 := o.blk.cell 0
  have c4 := o.blk.cell 4
  have hl := o.blk.lt
  dsimp [Sk.cells] at c0 c4
  rw [hk] at c0
  generalize ptr1 F L p.peer = y at *
  clear h hp o hk
  go_enter Try.func33, Try.ntmps33
  go_wp2_with fail
  refine HF.out.mono ?_
  rintro x w' ⟨rfl, rfl⟩
  go_wp2_with fail
  refine HG.out.mono ?_
  rintro x w' ⟨rfl, rfl⟩
  go_wp2
  exact bodyPost_ret (v := .tuple #[.pointer (some ⟨(L i).b, 0, none⟩), y, .int .i64 0]) (by simp [results, Try.results33, go_sem]) rfl ⟨rfl, rfl⟩
end
end Go.Proofs.Ytmoanemhjcdjkaa
