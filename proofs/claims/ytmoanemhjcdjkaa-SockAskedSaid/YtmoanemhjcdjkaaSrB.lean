/- Contracts of the reference's SockMade, hearer, SockNamed, SockHears, SockShut, SockTold. -/
import Derived.Test.YtmoanemhjcdjkaaSrA
import Derived.LoopTactic
import Derived.IntWalk
namespace Go.Proofs.Ytmoanemhjcdjkaa
open Go.RowKit Go.Maps
set_option maxHeartbeats 400000
set_option linter.unusedVariables false
set_option linter.unusedSimpArgs false
section
variable {w : World} {B b n : Nat} {F : Fs} {M : Nat → Ml} {i : Nat} {p : Sk}
theorem lit_wf {i : Nat} (hi : i < 16) : (Lit.int .i64 ((i : Int) + 1)).wf = true := wf_of (by omega)
set_option maxRecDepth 100000 in
theorem rmade_free (h : Rr w B b n F M) (hf : freeAt F i) (hB : B ≤ w.heap.size) (hn : n < maxLen) : Calls Try.prog 6 #[.map (some b)] w fun e w' => e = .returned (.tuple #[.int .i64 ((i : Int) + 1), .int .i64 0]) ∧ TGe w B b n F M (n + 1) (put F i (some .zero)) (setM M i ⟨w.heap.size, .slice none 0 0⟩) w' := by
  obtain ⟨hi, hno, hb⟩ := hf
  have HS := Lib.hid (fun k (hk : k < i) => by
    obtain ⟨q, hq⟩ := Option.ne_none_iff_exists'.1 (hb k hk)
    exact (⟨_, h.look_some (by omega) hq⟩ : ∃ a, (Instr.lookup 26 (.map (some b)) (.int .i64 ((k : Int) + 1)) false).run Try.prog w = .ok (.pointer (some ⟨a, 0, none⟩)) w))
  have hl0 := h.look_none (lit_wf hi) ((at1_of hi).trans hno)
  obtain ⟨w2, hup, hm2, hg2⟩ := (h.map.fr ((Fr.refl Nil w).alloc (.cells (Sk.zero.rcells ⟨w.heap.size, .slice none 0 0⟩) 63)) (fun h => h)).update hn (lit_wf hi) w.heap.size
  have HT := Lib.hid (h.fill_e hi hno hB hm2 hg2)
  have HL := Lib.hid hl0
  have hi' : (i : Int) < 16 := by omega
  have hrun : (Instr.mapUpdate 26 (.map (some b)) (.int .i64 ((i : Int) + 1)) (.pointer (some ⟨w.heap.size, 0, none⟩))).run Try.prog (w.alloc (.cells #[.int .i64 0, .int .i64 0, .int .i64 0, .int .i64 0, .slice none 0 0, .string { data := #[] }, .bool false] 63)) = .ok () w2 := hup
  clear h hb hno hm2 hg2 hl0 hup
  go_enter Try.func6, Try.ntmps6
  go_wp2_with fail
  go_loop [4] (fun x => ∃ k : Nat, x = .int .i64 ((k : Int) + 1) ∧ k ≤ i) (fun x => i + 1 - (intOf x).toNat)
  case atStart => exact ⟨0, rfl, by omega⟩
  case round =>
    obtain ⟨k, rfl, hk⟩ := hrel
    have hk16 : (k : Int) + 1 ≤ 16 := by omega
    by_cases hki : k < i
    · obtain ⟨a, hlk⟩ := HS.out k hki
      go_wp2
      go_round
      case rel => exact ⟨k + 1, by go_num, by omega⟩
      case measure => simp [intOf]; omega
    · obtain rfl : k = i := by omega
      have hlk := HL.out
      go_wp2
      go_ret2
      exact ⟨rfl, HT.out⟩
set_option maxRecDepth 100000 in
theorem rmade_full (h : Rr w B b n F M) (hf : full F) : Calls Try.prog 6 #[.map (some b)] w fun e w' => e = .returned (.tuple #[.int .i64 0, .int .i64 6]) ∧ w = w' := by
  have HS := Lib.hid (fun k (hk : k < 16) => by
    obtain ⟨q, hq⟩ := Option.ne_none_iff_exists'.1 (hf k hk)
    exact (⟨_, h.look_some (by omega) hq⟩ : ∃ a, (Instr.lookup 26 (.map (some b)) (.int .i64 ((k : Int) + 1)) false).run Try.prog w = .ok (.pointer (some ⟨a, 0, none⟩)) w))
  clear h hf
  go_enter Try.func6, Try.ntmps6
  go_wp2_with fail
  go_loop [4] (fun x => ∃ k : Nat, x = .int .i64 ((k : Int) + 1) ∧ k ≤ 16) (fun x => 17 - (intOf x).toNat)
  case atStart => exact ⟨0, rfl, by omega⟩
  case round =>
    obtain ⟨k, rfl, hk⟩ := hrel
    by_cases hki : k < 16
    · have hk16 : (k : Int) + 1 ≤ 16 := by omega
      obtain ⟨a, hlk⟩ := HS.out k hki
      go_wp2
      go_round
      case rel => exact ⟨k + 1, by go_num, by omega⟩
      case measure => simp [intOf]; omega
    · have hk16 : ¬ (k : Int) + 1 ≤ 16 := by omega
      go_wp2
      go_ret2
      exact ⟨rfl, rfl⟩
theorem rmade_any (h : Rr w B b n F M) (hB : B ≤ w.heap.size) (hn : n < maxLen) : Calls Try.prog 6 #[.map (some b)] w (TwoQ w B b n F M (madeR F)) := by
  rcases free_or F with hf | ⟨i, hf⟩
  · refine (rmade_full h hf).mono ?_
    rintro e w' ⟨rfl, rfl⟩
    exact twoQ (.inl ⟨hf, rfl, rfl, rfl⟩) h.refl
  · refine (rmade_free h hf hB hn).mono ?_
    rintro e w' ⟨rfl, hg⟩
    exact twoQ (.inr ⟨i, hf, rfl, rfl, rfl⟩) (hg.go (Nat.le_refl _))
/-- The slots that have the port, in the reference's words. -/
theorem hasP_iff (h : Rr w B b n F M) {k : Nat} (hk : k < 16) {x : Sk} (hx : F k = some x) (port : Int) : hasP F port k ↔ x.kind < 3 ∧ x.port = port := by
  have ho := (h.ob k x hk hx).ok
  constructor
  · rintro ⟨y, hy, h1, h2⟩
    rw [hx] at hy
    injection hy with hy
    subst hy
    exact ⟨by have := ho.2.1; omega, h1⟩
  · rintro ⟨h1, h2⟩
    exact ⟨x, hx, h2, by omega⟩
set_option maxRecDepth 100000 in
/-- hearer: whoever it is. -/
theorem hearer_any (h : Rr w B b n F M) (port : Int) (m : Nat) (hm : m ≤ 16) (hno : ∀ j, j < m → ¬ hasP F port j) (hat : m < 16 → hasP F port m) (V : Value) (HV : Hid ((m < 16 → V = .pointer (some ⟨(M m).b, 0, none⟩)) ∧ (¬ m < 16 → V = .pointer none))) : Calls Try.prog 31 #[.map (some b), .int .i64 port] w fun e w' => e = .returned V ∧ w = w' := by
  have HH := Lib.hid h
  have HN := Lib.hid hno
  have HA := Lib.hid hat
  clear h hno hat
  go_enter Try.func31, Try.ntmps31
  go_wp2_with fail
  go_loop [5] (fun x => ∃ k : Nat, x = .int .i64 ((k : Int) + 1) ∧ k ≤ m) (fun x => m + 1 - (intOf x).toNat)
  case atStart => exact ⟨0, rfl, by omega⟩
  case round =>
    obtain ⟨k, rfl, hk⟩ := hrel
    by_cases hkm : k < m
    · have hk16 : (k : Int) + 1 ≤ 16 := by omega
      have hkn : k < 16 := by omega
      cases hF : F k with
      | none =>
        have hlk := HH.out.look_none (lit_wf hkn) ((at1_of hkn).trans hF)
        clear hF
        go_wp2
        go_round
        case rel => exact ⟨k + 1, by go_num, by omega⟩
        case measure => simp [intOf]; omega
      | some x =>
        have hlk := HH.out.look_some hkn hF
        have o := HH.out.ob k x hkn hF
        have hnp := fun e => HN.out k hkm ((hasP_iff HH.out hkn hF port).2 e)
        have c0 := o.blk.cell 0
        have c1 := o.blk.cell 1
        have hl := o.blk.lt
        dsimp [Sk.rcells] at c0 c1
        clear hF o
        by_cases hk3 : x.kind < 3
        · have hd : decide (x.kind < 3) = true := by simpa using hk3
          have hd2 : (x.port == port) = false := by simpa using fun e => hnp ⟨hk3, e⟩
          clear hk3 hnp
          go_wp2
          go_round
          case rel => exact ⟨k + 1, by go_num, by omega⟩
          case measure => simp [intOf]; omega
        · have hd : decide (x.kind < 3) = false := by simpa using hk3
          clear hk3 hnp
          go_wp2
          go_round
          case rel => exact ⟨k + 1, by go_num, by omega⟩
          case measure => simp [intOf]; omega
    · have hkm' : k = m := by omega
      subst hkm'
      by_cases hk16 : k < 16
      · have hki : (k : Int) + 1 ≤ 16 := by omega
        have hA := HA.out hk16
        obtain ⟨x, hx, -, -⟩ := id hA
        have hlk := HH.out.look_some hk16 hx
        have o := HH.out.ob k x hk16 hx
        obtain ⟨h1, h2⟩ := (hasP_iff HH.out hk16 hx port).1 hA
        have c0 := o.blk.cell 0
        have c1 := o.blk.cell 1
        have hl := o.blk.lt
        dsimp [Sk.rcells] at c0 c1
        rw [h2] at c1
        have hd : decide (x.kind < 3) = true := by simpa using h1
        clear hx o hA h1 h2
        go_wp2
        go_ret
        exact ⟨by rw [HV.out.1 hk16]; rfl, rfl⟩
      · have hki : ¬ (k : Int) + 1 ≤ 16 := by omega
        go_wp2
        go_ret
        exact ⟨by rw [HV.out.2 hk16]; rfl, rfl⟩
theorem hearer_some (h : Rr w B b n F M) {port : Int} {k : Nat} (hk : namedAt F port k) : Calls Try.prog 31 #[.map (some b), .int .i64 port] w fun e w' => e = .returned (.pointer (some ⟨(M k).b, 0, none⟩)) ∧ w = w' :=
  hearer_any h port k (by have := hk.1; omega) hk.2.2 (fun _ => hk.2.1) _ (Lib.hid ⟨fun _ => rfl, fun e => absurd hk.1 e⟩)
theorem hearer_none (h : Rr w B b n F M) {port : Int} (hk : noName F port) : Calls Try.prog 31 #[.map (some b), .int .i64 port] w fun e w' => e = .returned (.pointer none) ∧ w = w' :=
  hearer_any h port 16 (by omega) hk (fun h => absurd h (by omega)) _ (Lib.hid ⟨fun e => absurd e (by omega), fun _ => rfl⟩)
theorem Rr.poke2 (h : Rr w B b n F M) (hi : i < 16) (hp : F i = some p) {p' : Sk} {j j' : Nat} {u u' : Value} (hb : ((p.rcells (M i)).setIfInBounds j u).setIfInBounds j' u' = p'.rcells (M i)) (hq : p'.q = p.q) (hok : p'.ok) :
    TGo w B b n F M (put F i (some p')) ((w.setCell ⟨(M i).b, j, none⟩ u).setCell ⟨(M i).b, j', none⟩ u') :=
  (h.poke_e hi hp (((Fr.refl (fun k => k = (M i).b) w).setCell (p := ⟨(M i).b, j, none⟩) (fun _ => rfl) _).setCell (p := ⟨(M i).b, j', none⟩) (fun _ => rfl) _) (hb ▸ ((h.ob i p hi hp).blk.set j u).set j' u') hq hok).go (by omega)
theorem Rr.poke1 (h : Rr w B b n F M) (hi : i < 16) (hp : F i = some p) {p' : Sk} {j : Nat} {u : Value} (hb : (p.rcells (M i)).setIfInBounds j u = p'.rcells (M i)) (hq : p'.q = p.q) (hok : p'.ok) :
    TGo w B b n F M (put F i (some p')) (w.setCell ⟨(M i).b, j, none⟩ u) :=
  (h.poke_e hi hp ((Fr.refl (fun k => k = (M i).b) w).setCell (p := ⟨(M i).b, j, none⟩) (fun _ => rfl) _) (hb ▸ (h.ob i p hi hp).blk.set j u) hq hok).go (by omega)
set_option maxRecDepth 100000 in
theorem rname_any (h : Rr w B b n F M) (id port : Int) (hid : (Lit.int .i64 id).wf = true) : Calls Try.prog 8 #[.map (some b), .int .i64 id, .int .i64 port] w (NameQ w B b n F M (NameR F id port)) := by
  have HP := Lib.hid h.refl
  by_cases h1 : port < 1
  · have hd : decide (port < 1) = true := by simpa using h1
    have HR : Hid (NameR F id port 1 F) := Lib.hid (.arg (.inl h1))
    clear h h1
    go_enter Try.func8, Try.ntmps8
    go_wp2
    go_ret
    exact nameQ HR.out HP.out
  have hd : decide (port < 1) = false := by simpa using h1
  by_cases h2 : 99 < port
  · have hd2 : decide (99 < port) = true := by simpa using h2
    have HR : Hid (NameR F id port 1 F) := Lib.hid (.arg (.inr h2))
    clear h h1 h2
    go_enter Try.func8, Try.ntmps8
    go_wp2
    go_ret
    exact nameQ HR.out HP.out
  have hd2 : decide (99 < port) = false := by simpa using h2
  have hport : 1 ≤ port ∧ port ≤ 99 := by omega
  cases ha : at1 F id with
  | none =>
    have hlk := h.look_none hid ha
    have HR : Hid (NameR F id port 4 F) := Lib.hid (.none hport ha)
    clear h h1 h2 ha hport
    go_enter Try.func8, Try.ntmps8
    go_wp2
    go_ret
    exact nameQ HR.out HP.out
  | some x =>
    obtain ⟨i, hi, rfl, hp⟩ := at1_some ha
    have hlk := h.look_some hi hp
    have o := h.ob i x hi hp
    have c0 := o.blk.cell 0
    have c1 := o.blk.cell 1
    have hl := o.blk.lt
    have hf0 := o.blk.free 0
    have hf1 := o.blk.free 1
    dsimp [Sk.rcells] at c0 c1
    by_cases hk : x.kind = 0
    · rw [hk] at c0
      rcases named_or F port with hn | ⟨k, hn⟩
      · have HV := Lib.hid (hearer_none h hn)
        have HR : Hid (NameR F ((i : Int) + 1) port 0 (put F i (some { x with kind := 1, port := port }))) := Lib.hid (.ok hport hi rfl hp hk hn)
        have HG : Hid (TGo w B b n F M (put F i (some { x with kind := 1, port := port })) ((w.setCell ⟨(M i).b, 0, none⟩ (.int .i64 1)).setCell ⟨(M i).b, 1, none⟩ (.int .i64 port))) :=
          Lib.hid (h.poke2 hi hp (by rfl) rfl (by obtain ⟨o1, o2, o3, o4, o5⟩ := o.ok; exact ⟨by dsimp only; decide, by dsimp only; omega, by dsimp only; omega, by dsimp only; omega, o5⟩))
        clear h h1 h2 ha hp o hk hn hport HP
        go_enter Try.func8, Try.ntmps8
        go_wp2_with fail
        refine HV.out.mono ?_
        rintro x w' ⟨rfl, rfl⟩
        go_wp2
        go_ret
        exact nameQ HR.out HG.out
      · have HV := Lib.hid (hearer_some h hn)
        have HR : Hid (NameR F ((i : Int) + 1) port 5 F) := Lib.hid (.there hport ha hk hn)
        clear h h1 h2 ha hp o hk hn hport
        go_enter Try.func8, Try.ntmps8
        go_wp2_with fail
        refine HV.out.mono ?_
        rintro x w' ⟨rfl, rfl⟩
        go_wp2
        go_ret
        exact nameQ HR.out HP.out
    · have HR : Hid (NameR F ((i : Int) + 1) port 8 F) := Lib.hid (.state hport ha hk)
      have hd3 : decide (0 < x.kind) = true := by have := o.ok.1; simp; omega
      clear h h1 h2 ha hp o hk hport
      go_enter Try.func8, Try.ntmps8
      go_wp2
      go_ret
      exact nameQ HR.out HP.out
set_option maxRecDepth 100000 in
theorem rhear_any (h : Rr w B b n F M) (hv : Inv F) (id many : Int) (hid : (Lit.int .i64 id).wf = true) : Calls Try.prog 10 #[.map (some b), .int .i64 id, .int .i64 many] w (NameQ w B b n F M (HearR F id many)) := by
  have HP := Lib.hid h.refl
  by_cases h1 : many < 1
  · have hd : decide (many < 1) = true := by simpa using h1
    have HR : Hid (HearR F id many 1 F) := Lib.hid (.arg (.inl h1))
    clear h h1
    go_enter Try.func10, Try.ntmps10
    go_wp2
    go_ret
    exact nameQ HR.out HP.out
  have hd : decide (many < 1) = false := by simpa using h1
  by_cases h2 : 4 < many
  · have hd2 : decide (4 < many) = true := by simpa using h2
    have HR : Hid (HearR F id many 1 F) := Lib.hid (.arg (.inr h2))
    clear h h1 h2
    go_enter Try.func10, Try.ntmps10
    go_wp2
    go_ret
    exact nameQ HR.out HP.out
  have hd2 : decide (4 < many) = false := by simpa using h2
  have hm : 1 ≤ many ∧ many ≤ 4 := by omega
  cases ha : at1 F id with
  | none =>
    have hlk := h.look_none hid ha
    have HR : Hid (HearR F id many 4 F) := Lib.hid (.none hm ha)
    clear h h1 h2 ha hm
    go_enter Try.func10, Try.ntmps10
    go_wp2
    go_ret
    exact nameQ HR.out HP.out
  | some x =>
    obtain ⟨i, hi, rfl, hp⟩ := at1_some ha
    have hlk := h.look_some hi hp
    have o := h.ob i x hi hp
    have c0 := o.blk.cell 0
    have c2 := o.blk.cell 2
    have hl := o.blk.lt
    have hf0 := o.blk.free 0
    have hf2 := o.blk.free 2
    dsimp [Sk.rcells] at c0 c2
    by_cases hk : x.kind = 1
    · rw [hk] at c0
      have hq : x.q = [] := by
        cases e : x.q with
        | nil => rfl
        | cons k r =>
          have := (hv.queue i x k hi hp (by rw [e]; simp)).1
          omega
      have HR : Hid (HearR F ((i : Int) + 1) many 0 (put F i (some { x with kind := 2, many := many }))) := Lib.hid (.ok hm hi rfl hp hk)
      have HG : Hid (TGo w B b n F M (put F i (some { x with kind := 2, many := many })) ((w.setCell ⟨(M i).b, 0, none⟩ (.int .i64 2)).setCell ⟨(M i).b, 2, none⟩ (.int .i64 many))) := Lib.hid (h.poke2 hi hp (by rfl) rfl (by obtain ⟨o1, o2, o3, o4, o5, o6, o7, o8⟩ := o.ok; exact ⟨by dsimp only; decide, by dsimp only; omega, o3, o4, by dsimp only; omega, by dsimp only; omega, by dsimp only; rw [hq]; simp; omega, o8⟩))
      clear h h1 h2 ha hp o hk hm HP hq hv
      go_enter Try.func10, Try.ntmps10
      go_wp2
      go_ret
      exact nameQ HR.out HG.out
    · have HR : Hid (HearR F ((i : Int) + 1) many 8 F) := Lib.hid (.state hm ha hk)
      have hd3 : (x.kind != 1) = true := by simpa using hk
      clear h h1 h2 ha hp o hk hm
      go_enter Try.func10, Try.ntmps10
      go_wp2
      go_ret
      exact nameQ HR.out HP.out
set_option maxRecDepth 100000 in
theorem rshut_any (h : Rr w B b n F M) (id : Int) (hid : (Lit.int .i64 id).wf = true) : Calls Try.prog 21 #[.map (some b), .int .i64 id] w (NameQ w B b n F M (ShutR F id)) := by
  have HP := Lib.hid h.refl
  cases ha : at1 F id with
  | none =>
    have hlk := h.look_none hid ha
    have HR : Hid (ShutR F id 4 F) := Lib.hid (.none ha)
    clear h ha
    go_enter Try.func21, Try.ntmps21
    go_wp2
    go_ret
    exact nameQ HR.out HP.out
  | some x =>
    obtain ⟨i, hi, rfl, hp⟩ := at1_some ha
    have hlk := h.look_some hi hp
    have o := h.ob i x hi hp
    have c0 := o.blk.cell 0
    have c6 := o.blk.cell 6
    have hl := o.blk.lt
    have hf6 := o.blk.free 6
    dsimp [Sk.rcells] at c0 c6
    by_cases hk : x.kind = 3
    · rw [hk] at c0
      cases hs : x.shut with
      | true =>
        have HR : Hid (ShutR F ((i : Int) + 1) 8 F) := Lib.hid (.state ha (.inr hs))
        rw [hs] at c6
        clear h ha hp o hk hs
        go_enter Try.func21, Try.ntmps21
        go_wp2
        go_ret
        exact nameQ HR.out HP.out
      | false =>
        have HR : Hid (ShutR F ((i : Int) + 1) 0 (put F i (some { x with shut := true }))) := Lib.hid (.ok hi rfl hp hk hs)
        have HG : Hid (TGo w B b n F M (put F i (some { x with shut := true })) (w.setCell ⟨(M i).b, 6, none⟩ (.bool true))) := Lib.hid (h.poke1 hi hp (by rfl) rfl o.ok)
        rw [hs] at c6
        clear h ha hp o hk hs HP
        go_enter Try.func21, Try.ntmps21
        go_wp2
        go_ret
        exact nameQ HR.out HG.out
    · have HR : Hid (ShutR F ((i : Int) + 1) 8 F) := Lib.hid (.state ha (.inl hk))
      have hd3 : (x.kind != 3) = true := by simpa using hk
      clear h ha hp o hk
      go_enter Try.func21, Try.ntmps21
      go_wp2
      go_ret
      exact nameQ HR.out HP.out
/-- What SockTold answers. -/
def ToldQ (w : World) (F : Fs) (id : Int) (e : Ending) (w' : World) : Prop := ∃ a b c d, e = .returned (.tuple #[.int .i64 a, .int .i64 b, .int .i64 c, .int .i64 d]) ∧ TellR F id a b c d ∧ Below w.heap.size w w'
set_option maxRecDepth 100000 in
theorem rtold_any (h : Rr w B b n F M) (id : Int) (hid : (Lit.int .i64 id).wf = true) : Calls Try.prog 25 #[.map (some b), .int .i64 id] w (ToldQ w F id) := by
  cases ha : at1 F id with
  | none =>
    have hlk := h.look_none hid ha
    have HR : Hid (TellR F id 0 0 0 4) := Lib.hid (.none ha)
    clear h ha
    go_enter Try.func25, Try.ntmps25
    go_wp2
    exact bodyPost_ret (v := .tuple #[.int .i64 0, .int .i64 0, .int .i64 0, .int .i64 4]) (by simp [results, Try.results25, go_sem]) rfl ⟨_, _, _, _, rfl, HR.out, Below.refl _ _⟩
  | some p =>
    obtain ⟨i, hi, rfl, hp⟩ := at1_some ha
    have hlk := h.look_some hi hp
    have HR : Hid (TellR F ((i : Int) + 1) p.kind p.port ((p.q.length : Int) + p.bs.length) 0) := Lib.hid (.ok ha)
    obtain ⟨o1, o2, o3, o5⟩ := h.ob i p hi hp
    obtain ⟨A0, n0, hv0, -, -⟩ := o2.shape
    obtain ⟨-, -, -, -, -, k6, k7, -, -, k8, -⟩ := o5
    have hq4 : p.q.length ≤ 4 := by omega
    have c0 := o1.cell 0
    have c1 := o1.cell 1
    have c4 := o1.cell 4
    have c5 := o1.cell 5
    have hl := o1.lt
    have hsz := strOfNums_size p.bs
    dsimp [Sk.rcells] at c0 c1 c4 c5
    rw [hv0] at c4
    clear h hp ha o1 o2 o3 hv0 k6 k7
    generalize p.q.length = a at *
    generalize p.bs.length = c at *
    generalize strOfNums p.bs = s at *
    go_enter Try.func25, Try.ntmps25
    go_wp2_with fail
    refine wp_region_near w.heap.size (by kernel_rfl) (by kernel_rfl) ?_
    repeat (go_big_quiet_step (fail))
    refine wpQuiet_nil ?_
    intro w3 hb3
    go_wp2
    exact bodyPost_ret (v := .tuple #[.int .i64 p.kind, .int .i64 p.port, .int .i64 ((a : Int) + c), .int .i64 0]) (by simp [results, Try.results25, go_sem]) rfl ⟨_, _, _, _, rfl, HR.out, hb3⟩
end
end Go.Proofs.Ytmoanemhjcdjkaa
