/- Contracts of the reference's SockGiven and SockGot. -/
import Derived.Test.YtmoanemhjcdjkaaSrC
import Derived.Test.YtmoanemhjcdjkaaSkH
namespace Go.Proofs.Ytmoanemhjcdjkaa
open Go.RowKit Go.Maps
set_option maxHeartbeats 400000
set_option linter.unusedVariables false
set_option linter.unusedSimpArgs false
theorem str_take (bs : List Int) (m : Nat) : (strOfNums bs).extract 0 m = strOfNums (bs.take m) := by
  apply ByteArray.ext
  simp [strOfNums, ByteArray.data_extract]
theorem str_drop (bs : List Int) (m : Nat) : (strOfNums bs).extract m bs.length = strOfNums (bs.drop m) := by
  apply ByteArray.ext
  simp [strOfNums, ByteArray.data_extract]
  rw [List.take_of_length_le (by simp)]
theorem text_empty (xs : List Int) : (strOfNums xs).toList.isEmpty = decide (xs.length = 0) := by
  rw [strOfNums_toList]
  cases xs <;> simp
theorem rb_one {w : World} {B n : Nat} {b o : Nat} {xs : List Int} (h : RB w B (some ⟨b, o, none⟩) n xs) {j : Nat} (hj : j < n) : RB w B (some ⟨b, o + j, none⟩) 1 [xs.getD j 0] := by
  obtain ⟨b', o', e, hb, hc, hr⟩ := h.at_ hj
  injection e with e
  injection e with e1 e2
  subst e1; subst e2
  refine ⟨⟨rfl, fun _ => ⟨b, o + j, rfl, hb, fun k u hu => ?_⟩⟩, fun x hx => by simp at hx; subst hx; exact hr⟩
  have hk : k = 0 := by
    rcases Nat.eq_zero_or_pos k with h0 | h0
    · exact h0
    · rw [List.getElem?_eq_none (by simp; omega)] at hu; cases hu
  subst hk
  simp at hu
  subst hu
  exact hc
theorem TGo.grow {w w1 w2 : World} {B b n : Nat} {F F' : Fs} {M : Nat → Ml} (h : TGo w B b n F M F' w1) (hb : Below w1.heap.size w1 w2) : TGo w B b n F M F' w2 := by
  obtain ⟨n', M', hn, h1, h2, h3⟩ := h
  exact ⟨n', M', hn, h1.grow hb, h2.trans ((Fr.of_grow hb).mono (S' := Nil) fun _ _ e => e) (fun k _ e => e.elim), h3⟩
def RetRq (W : World) (B b n0 : Nat) (F : Fs) (M : Nat → Ml) (id n : Int) (e : Ending) (w' : World) : Prop :=
  ∃ A m c y xs F', e = .returned (.tuple #[.slice A m c, .int .i64 y]) ∧ ReadR F id n xs y F' ∧ RB w' w'.heap.size A m xs ∧ TGo W B b n0 F M F' w'
section
variable {w : World} {B b n : Nat} {F : Fs} {M : Nat → Ml} {i : Nat} {p : Sk}
theorem rq_bad {w' : World} {id n' y : Int} (hr : ReadR F id n' [] y F) (hG : TGo w B b n F M F w') : RetRq w B b n F M id n' (.returned (.tuple #[.slice none 0 0, .int .i64 y])) w' :=
  ⟨none, 0, 0, y, [], F, rfl, hr, ⟨Reads.none_, fun y hy => by simp at hy⟩, hG⟩
set_option maxHeartbeats 2000000 in
set_option maxRecDepth 100000 in
theorem rgot_any (h : Rr w B b n F M) (id n' : Int) (hid : (Lit.int .i64 id).wf = true) : Calls Try.prog 18 #[.map (some b), .int .i64 id, .int .i64 n'] w (RetRq w B b n F M id n') := by
  have HP := Lib.hid h.refl
  by_cases hnn : n' < 0 ∨ 256 < n'
  · have HR : Hid (ReadR F id n' [] 1 F) := Lib.hid (.arg hnn)
    clear h hid
    rcases hnn with hnn | hnn
    · have hd : decide (n' < 0) = true := by simpa using hnn
      go_enter Try.func18, Try.ntmps18
      go_wp2
      go_ret2
      exact rq_bad HR.out HP.out
    · have hd : decide (n' < 0) = false := by simp; omega
      have hd2 : decide (256 < n') = true := by simpa using hnn
      go_enter Try.func18, Try.ntmps18
      go_wp2
      go_ret2
      exact rq_bad HR.out HP.out
  have hd : decide (n' < 0) = false := by simp; omega
  have hd2 : decide (256 < n') = false := by simp; omega
  have hn : 0 ≤ n' ∧ n' ≤ 256 := by omega
  cases ha : at1 F id with
  | none =>
    have hlk := h.look_none hid ha
    have HR : Hid (ReadR F id n' [] 4 F) := Lib.hid (.none hn ha)
    clear h ha hn hnn hid
    go_enter Try.func18, Try.ntmps18
    go_wp2
    go_ret2
    exact rq_bad HR.out HP.out
  | some x =>
    obtain ⟨i, hi, rfl, hp⟩ := at1_some ha
    clear hid
    have hlk := h.look_some hi hp
    have o := h.ob i x hi hp
    have c0 := o.blk.cell 0
    have c3 := o.blk.cell 3
    have c5 := o.blk.cell 5
    have hl := o.blk.lt
    have hf5 := o.blk.free 5
    dsimp [Sk.rcells] at c0 c3 c5
    by_cases hk : x.kind = 3
    case neg =>
      have HR : Hid (ReadR F ((i : Int) + 1) n' [] 8 F) := Lib.hid (.state hn ha hk)
      have hd3 : (x.kind != 3) = true := by simpa using hk
      clear h ha hp o hk hn hnn
      go_enter Try.func18, Try.ntmps18
      go_wp2
      go_ret2
      exact rq_bad HR.out HP.out
    rw [hk] at c0
    obtain ⟨bs, hbs⟩ : ∃ bs, x.bs = bs := ⟨_, rfl⟩
    rw [hbs] at c5
    have hok := o.ok
    obtain ⟨k1, k2, k3, k4, k5, k6, k7, k8, k9, k10, k11⟩ := id hok
    rw [hbs] at k10 k11
    have hpw : (Lit.int .i64 x.peer).wf = true := wf_of (by omega)
    obtain ⟨V, hlk2, hV⟩ : ∃ V, (Instr.lookup 26 (.map (some b)) (.int .i64 x.peer) false).run Try.prog w = .ok V w ∧ Hid ((at1 F x.peer = none ∧ V = .pointer none) ∨ ∃ y a, at1 F x.peer = some y ∧ V = .pointer (some ⟨a, 0, none⟩) ∧ w.cell? ⟨a, 6, none⟩ = some (.bool y.shut) ∧ a < w.heap.size) := by
      cases hat : at1 F x.peer with
      | none => exact ⟨_, h.look_none hpw hat, Lib.hid (.inl ⟨rfl, rfl⟩)⟩
      | some y =>
        obtain ⟨k, hk', hpe, hy⟩ := at1_some hat
        have oy := h.ob k y hk' hy
        exact ⟨.pointer (some ⟨(M k).b, 0, none⟩), by rw [hpe]; exact h.look_some hk' hy, Lib.hid (.inr ⟨y, (M k).b, rfl, rfl, oy.blk.cell 6, oy.blk.lt⟩)⟩
    obtain ⟨k, rfl⟩ : ∃ k : Nat, n' = k := ⟨n'.toNat, by omega⟩
    have hk256 : k ≤ 256 := by omega
    have hte := text_empty bs
    have hts := strOfNums_size bs
    have HG : Hid (∀ m, TGo w B b n F M (put F i (some { x with bs := bs.drop m })) (w.setCell ⟨(M i).b, 5, none⟩ (.string (strOfNums (bs.drop m))))) := Lib.hid (fun m => h.poke1 hi hp (p' := { x with bs := bs.drop m }) (by rfl) rfl ⟨k1, k2, k3, k4, k5, k6, k7, k8, k9, by dsimp only; rw [List.length_drop]; omega, byt_drop k11 m⟩)
    have HR : Hid (¬ (0 < (k : Int) ∧ x.bs = [] ∧ ∃ y, at1 F x.peer = some y ∧ y.shut = false) → ReadR F ((i : Int) + 1) k (bs.take k) 0 (put F i (some { x with bs := bs.drop k }))) := Lib.hid (fun hh => by
      have := ReadR.ok (F := F) hn hi (rfl : (i : Int) + 1 = (i : Int) + 1) hp hk hh
      rwa [hbs] at this)
    have HW : Hid ((0 < (k : Int) ∧ x.bs = [] ∧ ∃ y, at1 F x.peer = some y ∧ y.shut = false) → ReadR F ((i : Int) + 1) k [] 9 F) := Lib.hid (fun hh => by
      obtain ⟨h1, h2, y, h3, h4⟩ := hh
      exact .wait hn ha hk h1 h2 h3 h4)
    have HBS := Lib.hid hbs
    have HK11 := Lib.hid k11
    clear h ha hp o hk hn hnn hok k1 k2 k3 k4 k5 k6 k7 k8 k9 k10 k11 hpw hbs
    generalize x.peer = pe at *
    have hsb := fun W s => Lib.run_convert_string_bytes (P := Try.prog) W 9 30 5 s Try.underlying9 Try.underlying30 Try.underlying5
    rcases (by omega : k = 0 ∨ 0 < k) with hk0 | hk0
    · subst hk0
      have HRR := Lib.hid (HR.out (fun e => absurd e.1 (by simp)))
      have hd3 : decide ((bs.length : Int) < ((0 : Nat) : Int)) = false := by simp
      clear hte hV
      have hxt := str_take bs 0
      have hxd := str_drop bs 0
      have hgg := HG.out 0
      have hlt : (bs.take 0).length = 0 := rfl
      have HRB := Lib.hid ((RB.bytes (w.setCell ⟨(M i).b, 5, none⟩ (.string (strOfNums (bs.drop 0)))) 5 (bs.take 0) (byt_take HK11.out _)).more (B' := (Lib.bytesWorld (w.setCell ⟨(M i).b, 5, none⟩ (.string (strOfNums (bs.drop 0)))) 5 (strOfNums (bs.take 0))).heap.size) (by rw [Lib.bytesWorld_size]; exact Nat.le_refl _))
      have HGW := Lib.hid (TGo.grow hgg (below_bytes (w.setCell ⟨(M i).b, 5, none⟩ (.string (strOfNums (bs.drop 0)))) 5 (strOfNums (bs.take 0))))
      have hsz := strOfNums_size (bs.take 0)
      have HLT := Lib.hid hlt
      rw [hlt] at hsz
      clear hlt hgg HP HG HR HW
      go_enter Try.func18, Try.ntmps18
      go_wp2
      go_ret2
      refine ⟨_, 0, _, 0, bs.take 0, _, rfl, HRR.out, ?_, HGW.out⟩
      have hq := HRB.out
      rw [HLT.out] at hq
      rw [World.size_setCell] at hq
      exact hq
    have hk0' : (0 : Int) < k := by omega
    by_cases hb0 : bs.length = 0
    · obtain rfl : bs = [] := List.eq_nil_of_length_eq_zero hb0
      clear hte hb0
      rw [show strOfNums ([] : List Int) = ByteArray.empty from rfl] at c5
      rcases hV.out with ⟨hv1, hv2⟩ | ⟨y, a, hv1, hv2, hc6, hla⟩
      · have HRR := Lib.hid (HR.out (fun e => by obtain ⟨-, -, y, e, -⟩ := e; rw [hv1] at e; cases e))
        subst hv2
        clear hV hv1
        have hd3 : decide (((0 : Nat) : Int) < (k : Int)) = true := by simp; omega
        have hxt := str_take ([] : List Int) 0
        have hxd := str_drop ([] : List Int) 0
        have hgg := HG.out 0
        have hrt := HRR.out
        rw [List.take_nil, List.drop_nil] at hrt
        have HRT := Lib.hid hrt
        have hlt : (([] : List Int).take 0).length = 0 := rfl
        have HRB := Lib.hid ((RB.bytes (w.setCell ⟨(M i).b, 5, none⟩ (.string (strOfNums (([] : List Int).drop 0)))) 5 (([] : List Int).take 0) (byt_take HK11.out _)).more (B' := (Lib.bytesWorld (w.setCell ⟨(M i).b, 5, none⟩ (.string (strOfNums (([] : List Int).drop 0)))) 5 (strOfNums (([] : List Int).take 0))).heap.size) (by rw [Lib.bytesWorld_size]; exact Nat.le_refl _))
        have HGW := Lib.hid (TGo.grow hgg (below_bytes (w.setCell ⟨(M i).b, 5, none⟩ (.string (strOfNums (([] : List Int).drop 0)))) 5 (strOfNums (([] : List Int).take 0))))
        have hsz := strOfNums_size (([] : List Int).take 0)
        have HLT := Lib.hid hlt
        rw [hlt] at hsz
        clear hlt hgg HP HG HR HW HRR hrt
        go_enter Try.func18, Try.ntmps18
        go_wp2
        go_ret2
        refine ⟨_, 0, _, 0, [], _, rfl, HRT.out, ?_, HGW.out⟩
        have hq := HRB.out
        rw [HLT.out] at hq
        rw [World.size_setCell] at hq
        exact hq
      · subst hv2
        cases hs : y.shut with
        | false =>
          have HRR := Lib.hid (HW.out ⟨hk0', HBS.out, y, hv1, hs⟩)
          rw [hs] at hc6
          clear hV hv1 hs
          go_enter Try.func18, Try.ntmps18
          go_wp2
          go_ret2
          exact rq_bad HRR.out HP.out
        | true =>
          have HRR := Lib.hid (HR.out (fun e => by obtain ⟨-, -, y', e, e2⟩ := e; rw [hv1] at e; injection e with e; subst e; rw [hs] at e2; cases e2))
          rw [hs] at hc6
          clear hV hv1 hs
          have hd3 : decide (((0 : Nat) : Int) < (k : Int)) = true := by simp; omega
          have hxt := str_take ([] : List Int) 0
          have hxd := str_drop ([] : List Int) 0
          have hgg := HG.out 0
          have hrt := HRR.out
          rw [List.take_nil, List.drop_nil] at hrt
          have HRT := Lib.hid hrt
          have hlt : (([] : List Int).take 0).length = 0 := rfl
          have HRB := Lib.hid ((RB.bytes (w.setCell ⟨(M i).b, 5, none⟩ (.string (strOfNums (([] : List Int).drop 0)))) 5 (([] : List Int).take 0) (byt_take HK11.out _)).more (B' := (Lib.bytesWorld (w.setCell ⟨(M i).b, 5, none⟩ (.string (strOfNums (([] : List Int).drop 0)))) 5 (strOfNums (([] : List Int).take 0))).heap.size) (by rw [Lib.bytesWorld_size]; exact Nat.le_refl _))
          have HGW := Lib.hid (TGo.grow hgg (below_bytes (w.setCell ⟨(M i).b, 5, none⟩ (.string (strOfNums (([] : List Int).drop 0)))) 5 (strOfNums (([] : List Int).take 0))))
          have hsz := strOfNums_size (([] : List Int).take 0)
          have HLT := Lib.hid hlt
          rw [hlt] at hsz
          clear hlt hgg HP HG HR HW HRR hrt
          go_enter Try.func18, Try.ntmps18
          go_wp2
          go_ret2
          refine ⟨_, 0, _, 0, [], _, rfl, HRT.out, ?_, HGW.out⟩
          have hq := HRB.out
          rw [HLT.out] at hq
          rw [World.size_setCell] at hq
          exact hq
    · have hte2 : (strOfNums bs).toList.isEmpty = false := by rw [hte]; simpa using hb0
      have HRR := Lib.hid (HR.out (fun e => by obtain ⟨-, e, -⟩ := e; rw [HBS.out] at e; subst e; exact hb0 rfl))
      clear hte hV hb0
      by_cases hkl : bs.length < k
      · have hd3 : decide ((bs.length : Int) < (k : Int)) = true := by simp; omega
        have HKL := Lib.hid hkl
        have hxt : (strOfNums bs).extract 0 bs.length = strOfNums (bs.take k) := by rw [List.take_of_length_le (by have := HKL.out; omega)]; have := str_take bs bs.length; rwa [List.take_length] at this
        have hxd : (strOfNums bs).extract bs.length bs.length = ByteArray.empty := by have := str_drop bs bs.length; rw [List.drop_length] at this; exact this
        have hgg := HG.out k
        have hdm : strOfNums (bs.drop k) = ByteArray.empty := by rw [List.drop_of_length_le (by have := HKL.out; omega)]; rfl
        have hlt : (bs.take k).length = bs.length := by rw [List.length_take]; have := HKL.out; omega
        rw [hdm] at hgg
        have HRB := Lib.hid ((RB.bytes (w.setCell ⟨(M i).b, 5, none⟩ (.string (ByteArray.empty))) 5 (bs.take k) (byt_take HK11.out _)).more (B' := (Lib.bytesWorld (w.setCell ⟨(M i).b, 5, none⟩ (.string (ByteArray.empty))) 5 (strOfNums (bs.take k))).heap.size) (by rw [Lib.bytesWorld_size]; exact Nat.le_refl _))
        have HGW := Lib.hid (TGo.grow hgg (below_bytes (w.setCell ⟨(M i).b, 5, none⟩ (.string (ByteArray.empty))) 5 (strOfNums (bs.take k))))
        have hsz := strOfNums_size (bs.take k)
        have HLT := Lib.hid hlt
        rw [hlt] at hsz
        clear hlt hgg HP HG HR HW
        clear hdm hkl
        go_enter Try.func18, Try.ntmps18
        go_wp2
        go_ret2
        refine ⟨_, bs.length, _, 0, bs.take k, _, rfl, HRR.out, ?_, HGW.out⟩
        have hq := HRB.out
        rw [HLT.out] at hq
        rw [World.size_setCell] at hq
        exact hq
      · have hd3 : decide ((bs.length : Int) < (k : Int)) = false := by simp; omega
        have hxt := str_take bs k
        have hxd := str_drop bs k
        have hgg := HG.out k
        have hlt : (bs.take k).length = k := by rw [List.length_take]; omega
        have HRB := Lib.hid ((RB.bytes (w.setCell ⟨(M i).b, 5, none⟩ (.string (strOfNums (bs.drop k)))) 5 (bs.take k) (byt_take HK11.out _)).more (B' := (Lib.bytesWorld (w.setCell ⟨(M i).b, 5, none⟩ (.string (strOfNums (bs.drop k)))) 5 (strOfNums (bs.take k))).heap.size) (by rw [Lib.bytesWorld_size]; exact Nat.le_refl _))
        have HGW := Lib.hid (TGo.grow hgg (below_bytes (w.setCell ⟨(M i).b, 5, none⟩ (.string (strOfNums (bs.drop k)))) 5 (strOfNums (bs.take k))))
        have hsz := strOfNums_size (bs.take k)
        have HLT := Lib.hid hlt
        rw [hlt] at hsz
        clear hlt hgg HP HG HR HW
        go_enter Try.func18, Try.ntmps18
        go_wp2
        go_ret2
        refine ⟨_, k, _, 0, bs.take k, _, rfl, HRR.out, ?_, HGW.out⟩
        have hq := HRB.out
        rw [HLT.out] at hq
        rw [World.size_setCell] at hq
        exact hq
set_option maxHeartbeats 2000000 in
set_option maxRecDepth 100000 in
theorem rgiven_any (h : Rr w B b n F M) (hB : B ≤ w.heap.size) (id : Int) (hid : (Lit.int .i64 id).wf = true) (A2 : Option Addr) (n2 cc : Nat) (xs : List Int) (hx : RB w B A2 n2 xs) (hncc : n2 ≤ cc) (hcc : cc ≤ 9223372036854775807) : Calls Try.prog 16 #[.map (some b), .int .i64 id, .slice A2 n2 cc] w (TwoQ w B b n F M (WriteR F id xs)) := by
  have HP := Lib.hid h.refl
  have hlx := hx.len
  by_cases hn : 256 < xs.length
  · have HE : Hid (WriteR F id xs 0 1 F) := Lib.hid (.arg hn)
    have hd : decide ((256 : Int) < n2) = true := by simp; omega
    clear h hid
    go_enter Try.func16, Try.ntmps16
    go_wp2
    go_ret2
    exact twoQ HE.out HP.out
  have hd : decide ((256 : Int) < n2) = false := by simp; omega
  have hn' : xs.length ≤ 256 := by omega
  cases ha : at1 F id with
  | none =>
    have hlk := h.look_none hid ha
    have HR : Hid (WriteR F id xs 0 4 F) := Lib.hid (.none hn' ha)
    clear h ha hn hn' hid
    go_enter Try.func16, Try.ntmps16
    go_wp2
    go_ret2
    exact twoQ HR.out HP.out
  | some x =>
    obtain ⟨i, hi, rfl, hp⟩ := at1_some ha
    clear hid
    have hlk := h.look_some hi hp
    have o := h.ob i x hi hp
    have c0 := o.blk.cell 0
    have c3 := o.blk.cell 3
    have c6 := o.blk.cell 6
    have hl := o.blk.lt
    dsimp [Sk.rcells] at c0 c3 c6
    by_cases hk : x.kind = 3
    case neg =>
      have HR : Hid (WriteR F ((i : Int) + 1) xs 0 8 F) := Lib.hid (.state hn' ha (.inl hk))
      have hd3 : (x.kind != 3) = true := by simpa using hk
      clear h ha hp o hk hn hn'
      go_enter Try.func16, Try.ntmps16
      go_wp2
      go_ret2
      exact twoQ HR.out HP.out
    rw [hk] at c0
    cases hs : x.shut with
    | true =>
      have HR : Hid (WriteR F ((i : Int) + 1) xs 0 8 F) := Lib.hid (.state hn' ha (.inr hs))
      rw [hs] at c6
      clear h ha hp o hk hn hn' hs
      go_enter Try.func16, Try.ntmps16
      go_wp2
      go_ret2
      exact twoQ HR.out HP.out
    | false =>
      rw [hs] at c6
      have hpw : (Lit.int .i64 x.peer).wf = true := wf_of (by obtain ⟨k1, k2, k3, k4, k5, k6, k7, k8, k9, -⟩ := o.ok; omega)
      cases hat : at1 F x.peer with
      | none =>
        have hlk2 := h.look_none hpw hat
        have HR : Hid (WriteR F ((i : Int) + 1) xs 0 10 F) := Lib.hid (.pipe hn' ha hk hs hat)
        clear h ha hp o hk hn hn' hs hpw hat
        generalize x.peer = pe at *
        go_enter Try.func16, Try.ntmps16
        go_wp2
        go_ret2
        exact twoQ HR.out HP.out
      | some y =>
        obtain ⟨k, hk16, hpe, hy⟩ := at1_some hat
        have oy := h.ob k y hk16 hy
        have hlk2 := h.look_some hk16 hy
        rw [← hpe] at hlk2
        have d5 := oy.blk.cell 5
        have hly := oy.blk.lt
        dsimp [Sk.rcells] at d5
        obtain ⟨bs, hbs⟩ : ∃ bs, y.bs = bs := ⟨_, rfl⟩
        obtain ⟨k1, k2, k3, k4, k5, k6, k7, k8, k9, k10, k11⟩ := oy.ok
        rw [hbs] at d5 k10 k11
        obtain ⟨l, hll⟩ : ∃ l, bs.length = l := ⟨_, rfl⟩
        have hssz0 : (strOfNums bs).size = l := by rw [strOfNums_size]; exact hll
        rw [hll] at k10
        by_cases hh : 0 < xs.length ∧ l = 64
        · have HR : Hid (WriteR F ((i : Int) + 1) xs 0 9 F) := Lib.hid (.wait hn' ha hk hs hat hh.1 (by rw [hbs, hll]; exact hh.2))
          obtain ⟨hh1, hh2⟩ := hh
          have hd4 : 0 < n2 := by omega
          have hd5 : 63 < l := by omega
          clear h ha hp o hk hn hn' hs hpw hat oy hy hpe hh1 hh2 hbs hll k1 k2 k3 k4 k5 k6 k7 k8 k9 k10 k11
          generalize x.peer = pe at *
          generalize strOfNums bs = s1 at *
          go_enter Try.func16, Try.ntmps16
          go_wp2
          go_ret2
          exact twoQ HR.out HP.out
        · have hr : WriteR F ((i : Int) + 1) xs (min xs.length (64 - y.bs.length) : Nat) 0 (put F k (some { y with bs := y.bs ++ xs.take (64 - y.bs.length) })) := .ok hn' ha hk hs hk16 hpe hy (by rw [hbs, hll]; omega)
          rw [hbs, hll] at hr
          obtain ⟨nn, hnn⟩ : ∃ nn, min xs.length (64 - l) = nn := ⟨_, rfl⟩
          rw [take_min, Nat.min_comm (64 - l), hnn] at hr
          have HR := Lib.hid hr
          have HX := Lib.hid hx
          have HBB := Lib.hid hB
          have HLOW := Lib.hid h.lowF
          have HYK := Lib.hid hy
          have HLL := Lib.hid hll
          have HST : Hid (TGe w B b n F M n (put F k (some { y with bs := bs ++ xs.take 0 })) M w) := Lib.hid (by
            have e : ({ y with bs := bs ++ xs.take 0 } : Sk) = y := by rw [List.take_zero, List.append_nil, ← hbs]
            rw [e, put_self hy]; exact h.refl_e)
          have HK : Hid (∀ zs : List Int, (bs ++ zs).length ≤ 64 → Byt zs → ({ y with bs := bs ++ zs } : Sk).ok) := Lib.hid (fun zs h1 h2 => ⟨k1, k2, k3, k4, k5, k6, k7, k8, k9, h1, fun z hz => by
            rcases List.mem_append.1 hz with e | e
            · exact k11 z e
            · exact h2 z e⟩)
          rw [hlx] at hh hnn
          have hn256 : n2 ≤ 256 := by omega
          have hcase : n2 = 0 ∨ (0 < n2 ∧ ¬ l = 64) := by omega
          clear h ha hp o hk hn hn' hs hpw hat oy hy hpe hbs hll k1 k2 k3 k4 k5 k6 k7 k8 k9 k11 hr HP hh hx hB
          generalize x.peer = pe at *
          rcases hcase with hk0 | ⟨hk0, hk1⟩
          case' inl => have hd4 : ¬ 0 < n2 := by omega
          case' inr => have hd4 : 0 < n2 := hk0
          case' inr => have hd5 : ¬ 63 < l := by omega
          case' inl => clear hk0
          case' inr => clear hk0 hk1
          all_goals
            go_enter Try.func16, Try.ntmps16
            go_wp2_with fail
            clear hd4 hlk hlk2 c0 c3 c6 hl d5 hly hssz0
            try clear hd5
            go_loopw [10] (fun v wr => ∃ j : Nat, v = .int .i64 j ∧ j ≤ nn ∧ Hid (TGe w B b n F M n (put F k (some { y with bs := bs ++ xs.take j })) M wr)) (fun v _ => nn - (intOf v).toNat)
            case atStart => exact ⟨0, rfl, by omega, HST⟩
            case round =>
              obtain ⟨j, rfl, hj, HQ⟩ := hrel
              have oy := HQ.out.1.ob k _ hk16 (put_same F k _)
              have d5 := oy.blk.cell 5
              have hly := oy.blk.lt
              have hf5 := oy.blk.free 5
              dsimp [Sk.rcells] at d5
              have hxr : RB wr B A2 n2 xs := HX.out.below' (HQ.out.2.1.below HBB.out HLOW.out) (Nat.le_refl _)
              have hssz : (strOfNums (bs ++ xs.take j)).size = l + j := by rw [strOfNums_size, List.length_append, HLL.out, List.length_take]; omega
              clear oy
              by_cases hjn : j < nn
              · have hj2 : j < n2 := by omega
                have hji : (j : Int) < n2 := by omega
                have hs64 : decide (((l + j : Nat) : Int) < 64) = true := by simp; omega
                have hlj : l + j < 64 := by omega
                obtain ⟨b2, o2, rfl, hb2, hcx, -⟩ := hxr.at_ hj2
                have hone := rb_one hxr hj2
                have hconv := hone.drew.conv (P := Try.prog) (cc - j) 30 9 5 Try.underlying30 Try.underlying5 Try.underlying9
                have hjc : (j : Int) + 1 ≤ cc := by omega
                have hjc2 : ¬ cc = j := by omega
                have hj1 : (j : Int) ≤ (j : Int) + 1 := by omega
                have hw1 : IntKind.i64.wrap ((j : Int) + 1) = (j : Int) + 1 := IntWalk.i64_in _ (by omega)
                have ht1 : ((j : Int) + 1).toNat = j + 1 := by omega
                have hsub : j + 1 - j = 1 := by omega
                have hcat : strOfNums (bs ++ xs.take j) ++ strOfNums [xs.getD j 0] = strOfNums (bs ++ xs.take (j + 1)) := by
                  have hjx : j < xs.length := by omega
                  rw [strOfNums_append, List.append_assoc, List.take_succ_eq_append_getElem hjx]
                  simp [List.getD, List.getElem?_eq_getElem hjx]
                have hok := HK.out (xs.take (j + 1)) (by rw [List.length_append, HLL.out, List.length_take]; omega) (byt_take hxr.2 _)
                have hu := HQ.out.trans (HQ.out.1.poke_e hk16 (put_same F k _) (p' := { y with bs := bs ++ xs.take (j + 1) }) ((Fr.refl (fun a => a = (M k).b) wr).setCell (p := ⟨(M k).b, 5, none⟩) (fun _ => rfl) (.string (strOfNums (bs ++ xs.take (j + 1))))) ((HQ.out.1.ob k _ hk16 (put_same F k _)).blk.set 5 (.string (strOfNums (bs ++ xs.take (j + 1))))) rfl hok)
                rw [put_put] at hu
                have HU2 := Lib.hid (hu.trans (hu.1.grown_e (Below.refl _ _).drew))
                have HU3 := Lib.hid hu
                clear hok hxr hone hb2 hcx hu
                have hs0 : (strOfNums [xs.getD j 0]).size = 1 := by rw [strOfNums_size]; rfl
                have hbig : ¬ 9223372036854775807 < l + j + 1 := by omega
                generalize strOfNums (bs ++ xs.take (j + 1)) = s2 at *
                generalize strOfNums (bs ++ xs.take j) = s1 at *
                generalize strOfNums [xs.getD j 0] = s0 at *
                go_wp2_with fail
                go_region
                all_goals
                  go_wp2
                  clear hconv hw1 ht1 hsub hcat hs0 hbig hssz
                  go_roundw
                  case rel => exact ⟨j + 1, by go_num, by omega, HU2⟩
                  case measure => simp [intOf]; omega
              · obtain rfl : j = nn := by omega
                have HFIN := Lib.hid (HQ.out.go (by omega))
                clear hxr
                generalize strOfNums (bs ++ xs.take j) = s1 at *
                by_cases hjn2 : j < n2
                · have hs64 : ¬ l + j < 64 := by omega
                  clear hjn
                  go_wp2
                  go_ret2
                  exact twoQ HR.out HFIN.out
                · clear hjn
                  go_wp2
                  go_ret2
                  exact twoQ HR.out HFIN.out
end
end Go.Proofs.Ytmoanemhjcdjkaa
