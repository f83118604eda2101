/- words.value f9, (*fields).loose f10, slices.Clone f12. -/
import Derived.Test.YtopkcanfiefmaaaDoorExB
import Derived.Test.YtopkcanfiefmaaaDoorRecs
import Derived.LoopTactic
namespace Go.Proofs.YtopkcanfiefmaaaDoor
open Go.RowKit
set_option maxHeartbeats 400000
set_option linter.unusedVariables false
set_option linter.unusedSimpArgs false
/-! plain -/
def valF (l : List Vr) (name : ByteArray) : ByteArray := match l.find? (fun v => v.name.data.toList == name.data.toList) with | some v => v.value | none => ByteArray.empty
theorem valS_q {T : ByteArray} {vars : List Vr} {name : ByteArray} (h : name.data.toList = [63]) : valS T vars name = T := by unfold valS; rw [if_pos h]
theorem valS_v {T : ByteArray} {vars : List Vr} {name : ByteArray} (h : ¬ name.data.toList = [63]) : valS T vars name = valF vars name := by
  unfold valS valF; rw [if_neg h]
  cases vars.find? (fun v => v.name.data.toList == name.data.toList) <;> rfl
theorem valF_hit {v : Vr} {l : List Vr} {name : ByteArray} (h : (v.name.data.toList == name.data.toList) = true) : valF (v :: l) name = v.value := by
  unfold valF; rw [List.find?_cons_of_pos (by exact h)]
theorem valF_miss {v : Vr} {l : List Vr} {name : ByteArray} (h : (v.name.data.toList == name.data.toList) = false) : valF (v :: l) name = valF l name := by
  unfold valF; rw [List.find?_cons_of_neg (by simp [h])]
theorem valF_le {l : List Vr} {name : ByteArray} (h : ∀ v ∈ l, v.value.size ≤ 60) : (valF l name).size ≤ 60 := by
  unfold valF
  split
  · rename_i v hv
    exact h v (List.mem_of_find?_eq_some hv)
  · simp
theorem valS_le {T : ByteArray} {l : List Vr} {name : ByteArray} (hT : T.size ≤ 60) (h : ∀ v ∈ l, v.value.size ≤ 60) : (valS T l name).size ≤ 60 := by
  by_cases hq : name.data.toList = [63]
  · rw [valS_q hq]; exact hT
  · rw [valS_v hq]; exact valF_le h
theorem Vr.len (v : Vr) : v.cells.length = 2 := rfl
theorem loose_le : ∀ (l : List UInt8) (f : Fs), (f.loose l).now.size ≤ f.now.size + l.length ∧ (f.loose l).out.length ≤ f.out.length + l.length
  | [], f => ⟨Nat.le_refl _, Nat.le_refl _⟩
  | b :: l, f => by
    unfold Fs.loose
    have hb : (bs [b]).size = 1 := rfl
    split
    · have ih := loose_le l f.fin
      have h1 : f.fin.now.size = 0 := rfl
      have h2 : f.fin.out.length ≤ f.out.length + 1 := by unfold Fs.fin; dsimp only; split <;> simp
      simp only [List.length_cons]
      omega
    · have ih := loose_le l (f.add (bs [b]))
      have h1 : (f.add (bs [b])).now.size = f.now.size + 1 := by unfold Fs.add; simp [hb]
      have h2 : (f.add (bs [b])).out = f.out := rfl
      rw [h1, h2] at ih
      simp only [List.length_cons]
      omega
theorem one_cut (s : ByteArray) (j : Nat) (h : j < s.size) : s.extract j (j + 1) = bs [s[j]] := by
  apply ByteArray.ext
  apply Array.toList_inj.1
  rw [ByteArray.data_extract, Array.toList_extract]
  have hl : j < s.data.toList.length := by simpa using h
  have : s.data.toList.extract j (j + 1) = [s.data.toList[j]] := by
    rw [List.extract_eq_take_drop, Nat.add_sub_cancel_left, List.drop_eq_getElem_cons hl]
    simp
  rw [this]
  rfl
theorem drop_byte (s : ByteArray) (j : Nat) (h : j < s.size) : s.data.toList.drop j = s[j] :: s.data.toList.drop (j + 1) := by
  have hl : j < s.data.toList.length := by simpa using h
  rw [List.drop_eq_getElem_cons hl]
  rfl
set_option maxHeartbeats 2000000 in
set_option maxRecDepth 100000 in
theorem value_any (name : ByteArray) (A : Option Addr) (n c : Nat) (vars : List Vr) (k : Int) (w : World) (B : Nat) (h : RS Vr.cells 2 w B A n vars) (hB : B ≤ w.heap.size) (hv : VarOk w) (h0 : -9223372036854775808 ≤ k) (h1 : k ≤ 9223372036854775807) (hn : n ≤ 1048576) :
    Calls Tryd.prog 11 #[.string name, .slice A n c, .int .i64 k] w (SaysB (.string (valS (itoaS k) vars name)) w) := by
  have hlen := h.2
  by_cases hq : name.data.toList = [63]
  · have e := Lib.hid (valS_q (T := itoaS k) (vars := vars) hq)
    have hq2 : (name.toList == [63]) = true := by rw [Lib.toList_data, hq]; rfl
    have HI := Lib.hid (itoa_any k w h0 h1 hv)
    clear hq
    go_enter Tryd.func11, Tryd.ntmps11
    go_wp2_with fail
    refine HI.out.mono ?_
    rintro e w1 ⟨rfl, hb⟩
    go_wp2
    go_ret
    exact ⟨by rw [e.out]; rfl, hb⟩
  · have e := Lib.hid (valS_v (T := itoaS k) (vars := vars) hq)
    have hq2 : (name.toList == [63]) = false := by rw [Lib.toList_data]; simpa using hq
    obtain ⟨V, hV⟩ : ∃ V, valS (itoaS k) vars name = V := ⟨_, rfl⟩
    rw [hV] at e ⊢
    clear hq hV
    go_enter Tryd.func11, Tryd.ntmps11
    go_wp2_with fail
    go_loopw [15] (fun i wr => ∃ j : Nat, j ≤ n ∧ i = .int .i64 j ∧ Hid (V = valF (vars.drop j) name) ∧ Below w.heap.size w wr) (fun i _ => n - (intOf i).toNat)
    case atStart => exact ⟨0, Nat.zero_le _, rfl, Lib.hid e.out, Below.refl _ _⟩
    case round =>
      obtain ⟨j, hj, rfl, hd, hbw⟩ := hrel
      by_cases hjn : j < n
      rotate_left
      · obtain rfl : j = n := by omega
        have hfin := Lib.hid (hd.out.trans (by rw [List.drop_of_length_le (by omega)]; rfl) : V = ByteArray.empty)
        go_wp2
        go_ret
        exact ⟨by rw [hfin.out]; rfl, hbw⟩
      obtain ⟨bb, o, rfl, hbb, hm, hcs⟩ := RS.at_ (cl := Vr.cells) (s := 2) Vr.len Vr.zero h hjn
      have hjl : j < vars.length := by omega
      have hgj : vars.getD j Vr.zero = vars[j] := by simp [List.getD, List.getElem?_eq_getElem hjl]
      have hst : vars.drop j = vars.getD j Vr.zero :: vars.drop (j + 1) := by rw [List.drop_eq_getElem_cons hjl, hgj]
      have x0 := (hbw.cell (p := ⟨bb, o + j * 2 + 0, none⟩) (show bb < w.heap.size by omega)).trans (hcs 0 _ rfl)
      have x1 := (hbw.cell (p := ⟨bb, o + j * 2 + 1, none⟩) (show bb < w.heap.size by omega)).trans (hcs 1 _ rfl)
      have HD := Lib.hid (hd.out)
      rw [hst] at HD
      clear hcs hm hgj hd hst
      generalize vars.getD j Vr.zero = v at *
      obtain ⟨vn, vv⟩ := v
      dsimp only at x0 x1
      rw [Nat.add_zero] at x0
      have hkn : (j : Int) < n := by omega
      have hk0 : (0 : Int) ≤ j := by omega
      have hsw := hbw.size
      have hB5 : Below wr.heap.size wr (wr.alloc (.cells #[.string vn, .string vv] 43)) := (Below.refl _ _).alloc (Nat.le_refl _) _
      have hB6 := Lib.hid (hbw.trans (hB5.mono hsw))
      cases hx : (vn.toList == name.toList) with
      | true =>
        have hV := Lib.hid (HD.out.trans (valF_hit (by rw [← Lib.toList_data, ← Lib.toList_data]; exact hx)))
        go_wp2
        go_ret
        exact ⟨by rw [hV.out]; rfl, hB6.out⟩
      | false =>
        have hV := Lib.hid (HD.out.trans (valF_miss (by rw [← Lib.toList_data, ← Lib.toList_data]; exact hx)))
        go_wp2
        go_roundw
        case rel => exact ⟨j + 1, by omega, by go_num, hV, hB6.out⟩
        case measure => simp [intOf]; omega
set_option maxHeartbeats 2000000 in
set_option maxRecDepth 100000 in
theorem loose_any (B g : Nat) (f : Fs) (s : ByteArray) (w : World) (h : FdAt w B g f) (hs : s.size ≤ 60) (h1 : f.now.size ≤ 9000000000000000000) (h2 : f.out.length ≤ 4000000000000) :
    Calls Tryd.prog 12 #[.pointer (some ⟨g, 0, none⟩), .string s] w (FdPost B g (f.loose s.data.toList) w) := by
  have H := Lib.hid h
  clear h
  go_enter Tryd.func12, Tryd.ntmps12
  go_wp2_with fail
  go_loopw [7] (fun i wr => ∃ (j : Nat) (f' : Fs), j ≤ s.size ∧ i = .int .i64 j ∧ Hid (f.loose s.data.toList = f'.loose (s.data.toList.drop j)) ∧ f'.now.size ≤ f.now.size + j ∧ f'.out.length ≤ f.out.length + j ∧ Hid (FdAt wr B g f') ∧ FrG B g w wr) (fun i _ => s.size - (intOf i).toNat)
  case atStart => exact ⟨0, f, Nat.zero_le _, rfl, Lib.hid rfl, Nat.le_refl _, Nat.le_refl _, H, FrG.refl _ _ _⟩
  case round =>
    obtain ⟨j, f', hj, rfl, hd, hn, ho, hf, hfr⟩ := hrel
    have HFR := Lib.hid hfr
    clear hfr
    by_cases hjn : j < s.size
    rotate_left
    · obtain rfl : j = s.size := by omega
      have hfin := Lib.hid (hd.out.trans (by rw [List.drop_of_length_le (by simp)]; rfl) : f.loose s.data.toList = f')
      go_wp2
      refine bodyPost_ret (v := .tuple #[]) (by simp [results, Tryd.results12, go_sem]) rfl ?_
      exact ⟨rfl, by rw [hfin.out]; exact hf.out, HFR.out⟩
    have hkn : (j : Int) < s.size := by omega
    have hk0 : (0 : Int) ≤ j := by omega
    have hst := Lib.hid (drop_byte s j hjn)
    by_cases hb : s[j] = 32
    · have hbn : (s[j]'hjn).toNat = 32 := by rw [hb]; rfl
      have HE := Lib.hid (end_any B g f' wr hf.out (by omega))
      have hd2 : Hid (f.loose s.data.toList = f'.fin.loose (s.data.toList.drop (j + 1))) := Lib.hid (by rw [hd.out, hst.out, Fs.loose, if_pos hb])
      have ho2 : f'.fin.out.length ≤ f.out.length + (j + 1) := by unfold Fs.fin; dsimp only; split <;> (try simp) <;> omega
      have hn2 : f'.fin.now.size ≤ f.now.size + (j + 1) := by show (0 : Nat) ≤ _; omega
      clear hd hst hb
      go_wp2_with fail
      refine HE.out.mono ?_
      rintro e w1 ⟨rfl, hfa, hff⟩
      have HR := Lib.hid (HFR.out.trans hff)
      have HA := Lib.hid hfa
      clear hfa hff
      go_wp2
      go_roundw
      case rel => exact ⟨j + 1, f'.fin, by omega, by go_num, hd2, hn2, ho2, HA, HR.out⟩
      case measure => simp [intOf]; omega
    · have hbn : (((s[j]'hjn).toNat : Int) == 32) = false := by
        have : (s[j]'hjn).toNat ≠ 32 := fun h => hb (UInt8.toNat_inj.1 h)
        simp; omega
      have HE := Lib.hid (add_any B g f' (s.extract j (j + 1)) wr hf.out (by simp; omega))
      have hc := Lib.hid (one_cut s j hjn)
      have hd2 : Hid (f.loose s.data.toList = (f'.add (s.extract j (j + 1))).loose (s.data.toList.drop (j + 1))) := Lib.hid (by rw [hd.out, hst.out, Fs.loose, if_neg hb, hc.out])
      have ho2 : (f'.add (s.extract j (j + 1))).out.length ≤ f.out.length + (j + 1) := by show f'.out.length ≤ _; omega
      have hn2 : (f'.add (s.extract j (j + 1))).now.size ≤ f.now.size + (j + 1) := by show (f'.now ++ s.extract j (j + 1)).size ≤ _; simp; omega
      have q1 : (j : Int) + 1 ≤ s.size := by omega
      clear hd hst hb hc
      go_wp2_with fail
      refine HE.out.mono ?_
      rintro e w1 ⟨rfl, hfa, hff⟩
      have HR := Lib.hid (HFR.out.trans hff)
      have HA := Lib.hid hfa
      clear hfa hff
      go_wp2
      go_roundw
      case rel => exact ⟨j + 1, f'.add (s.extract j (j + 1)), by omega, by go_num, hd2, hn2, ho2, HA, HR.out⟩
      case measure => simp [intOf]; omega
/-! append onto an empty literal (memory only grows) -/
theorem run_append_lit0 {P : Program} (w : World) (base : Nat) (t ty e : TypeId) (i : TypeInfo) (z : Value) (size bytes : Nat) (ht : P.underlying t = some (.slice e)) (hi : P.info? e = some i) (hz : i.zero = some z)
    (hsize : i.size = size) (hby : i.bytes = bytes) (hzs : z.cells.size = size) (hsz : 0 < size) (g : Nat) (hown : Row w base e size (.slice (some ⟨g, 0, none⟩) 0 0) 0 [])
    (B : Nat) (A : Option Addr) (m c : Nat) (news : List Value) (hr : Reads w B size A m news)
    (h63 : m ≤ maxLen) (hbytes : m * bytes ≤ 140737488355328) (hbase : base ≤ w.heap.size) :
    ∃ A' c' w', (Builtin.append_ #[t, t] ty #[.slice (some ⟨g, 0, none⟩) 0 0, .slice A m c]).run P w = .ok (.slice A' m c') w' ∧ Row w' base e size (.slice A' m c') m news ∧ w.grownBy w' none := by
  subst hsize
  subst hby
  rcases Nat.eq_zero_or_pos m with h0 | h0
  · subst h0
    have hn : news = [] := List.eq_nil_of_length_eq_zero (by simpa using hr.1)
    subst hn
    refine ⟨some ⟨g, 0, none⟩, 0, w, ?_, hown, World.grownBy.refl w _⟩
    cases A <;> simp [Builtin.append_, run_underlying ht, sizeOf, typeInfo, hi, Builtin.lenOf, Builtin.firstCells, storeCells, loadCells, loadCellsFrom]
  · obtain ⟨b, o', rfl, _, hc⟩ := hr.2 h0
    have hnews : ∀ j u, news[j]? = some u → w.cell? ((⟨b, o', none⟩ : Addr).add j) = some u := fun j u hu => by rw [add_plain]; exact hc j u hu
    have hsmall : m ≤ 9223372036854775807 := by simp only [maxLen] at h63; omega
    have hru := run_append_grow (P := P) w t ty e i z ht hi hz ⟨g, 0, none⟩ 0 0 [] (by simp) (fun j u hu => by simp at hu) ⟨b, o', none⟩ m c news hr.1 hnews (by omega) (by omega) (growslice_fits (by omega) (by simpa using hbytes))
    simp only [Nat.zero_add, List.nil_append, Array.empty_append] at hru
    have hge := grownCap_ge w m 0 e
    have hcm : grownCap w m 0 e ≤ maxLen := grownCap_le_maxLen w m 0 e h63
    refine ⟨_, _, _, hru, ⟨hr.1, .inr ⟨w.heap.size, 0, _, _, rfl, hbase, heap_alloc_new w.drew _, hge, hcm, ?_, fun j u hu => ?_⟩⟩, ⟨rfl, rfl, rfl, by simp, fun k hk _ => heap_alloc_old w.drew _ hk⟩⟩
    · simp only [Array.size_append, List.size_toArray, size_zeroCells, hzs, hr.1, Array.size_empty, Nat.zero_add, ← Nat.add_mul]
      exact Nat.le_of_eq (by congr 1; omega)
    · have hj : j < news.length := (List.getElem?_eq_some_iff.1 hu).1
      simp only [Nat.zero_add]
      rw [Array.getElem?_append_left (by simpa using hj)]
      simpa using hu
theorem wpList_append_lit0 {P : Program} (w : World) {ops : Array Oper} {rest : List Oper} {o : Oper} {a : Act} {Q : Exit → Act → World → Prop} (hgd : o.guard = none) (s x : Operand) (t : TypeId)
    (ho : o.op = .call { callee := .builtin .append, args := #[s, x], argTypes := #[t, t] })
    (base : Nat) (e : TypeId) (i : TypeInfo) (z : Value) (size bytes : Nat) (ht : P.underlying t = some (.slice e)) (hi : P.info? e = some i) (hz : i.zero = some z)
    (hsize : i.size = size) (hby : i.bytes = bytes) (hzs : z.cells.size = size) (hsz : 0 < size) (g : Nat) (hs : a.eval s = .slice (some ⟨g, 0, none⟩) 0 0) (hown : Row w base e size (.slice (some ⟨g, 0, none⟩) 0 0) 0 [])
    (B : Nat) (A : Option Addr) (m c : Nat) (news : List Value) (hx : a.eval x = .slice A m c) (hr : Reads w B size A m news)
    (h63 : m ≤ maxLen) (hbytes : m * bytes ≤ 140737488355328) (hbase : base ≤ w.heap.size)
    (h : ∀ A' c' w', Row w' base e size (.slice A' m c') m news → Below w.heap.size w w' → wpList P ops Q rest (a.put o.dst (.slice A' m c')) w') : wpList P ops Q (o :: rest) a w :=
  wpList_plain hgd fun K hK => by
    obtain ⟨A', c', w', hrun, h2, h3⟩ := run_append_lit0 (P := P) w base t o.type e i z size bytes ht hi hz hsize hby hzs hsz g hown B A m c news hr h63 hbytes hbase
    unfold Oper.wp execOp
    simp only [ho, resolve, invoke, builtin, Sem.run_bind, Sem.run_pure, Result.andThen_ok, List.map_toArray, List.map_cons, List.map_nil, hs, hx, hrun]
    exact hK _ _ (h A' c' w' h2 ⟨h3.os, h3.tape, h3.output, h3.size, fun k hk => h3.block k hk (fun e => by cases e)⟩)
theorem row_lit0 (w : World) (base : Nat) (e : TypeId) (size : Nat) (hb : base ≤ w.heap.size) : Row (w.alloc (.cells #[] e)) base e size (.slice (some ⟨w.heap.size, 0, none⟩) 0 0) 0 [] :=
  ⟨by simp, .inr ⟨w.heap.size, 0, 0, #[], rfl, hb, heap_alloc_new w _, Nat.le_refl _, by simp, by simp, fun j u hu => by simp at hu⟩⟩
theorem sl_eql_nil {P : Program} (w : World) (t e : TypeId) (a : Option Addr) (n c n' c' : Nat) (h : P.underlying t = some (.slice e)) :
    (binOp .eql t (.slice a n c) (.slice none n' c')).run P w = .ok (.bool a.isNone) w := by
  simp only [binOp]
  simp [Op.equal, Op.maxDepth, Lib.run_equalIn_slice_nil w 9999 t e a n c n' c' h]

def strC (s : ByteArray) : List Value := [.string s]
theorem strC_len (s : ByteArray) : (strC s).length = 1 := rfl
theorem strC_flat (l : List ByteArray) : l.flatMap strC = l.map Value.string := by
  induction l with
  | nil => rfl
  | cons a l ih => rw [List.flatMap_cons, ih]; rfl
/-- A slice of texts behind a call. -/
def TxPost (out : List ByteArray) (w : World) (e : Ending) (w' : World) : Prop := ∃ A n c, e = .returned (.slice A n c) ∧ RS strC 1 w' w'.heap.size A n out ∧ Below w.heap.size w w'
set_option maxHeartbeats 2000000 in
set_option maxRecDepth 100000 in
theorem clone_any (A : Option Addr) (n c : Nat) (out : List ByteArray) (w : World) (B : Nat) (h : Row w B 9 1 (.slice A n c) n (out.map Value.string)) (hl : out.length = n) (hn : n ≤ 1048576) (hB : B ≤ w.heap.size) : Calls Tryd.prog 14 #[.slice A n c] w (TxPost out w) := by
  obtain ⟨i0, hi, hz0, hz1, hz2⟩ := info_parts infoS
  have hsh := h.shape
  obtain ⟨A', c', e, hnc, hcm⟩ := hsh
  injection e with e1 e2 e3
  subst e1; subst e3
  have hnl := fun (w : World) (a : Option Addr) (n c n' c' : Nat) => sl_eql_nil (P := Tryd.prog) w 27 9 a n c n' c' Tryd.underlying27
  cases A with
  | none =>
    have h0 : n = 0 ∧ c = 0 := by
      rcases h.2 with ⟨e, hz⟩ | ⟨g, o, cap, cur, e, _⟩
      · injection e with e1 e2 e3; exact ⟨e2, e3⟩
      · injection e with e1 e2 e3; cases e1
    obtain ⟨rfl, rfl⟩ := h0
    obtain rfl : out = [] := List.eq_nil_of_length_eq_zero hl
    go_enter Tryd.func14, Tryd.ntmps14
    go_wp2
    go_ret
    exact ⟨none, 0, 0, rfl, ⟨Reads.none_, rfl⟩, Below.refl _ _⟩
  | some a =>
    obtain ⟨b, o, sp⟩ := a
    have hsp : sp = none := by
      rcases h.2 with ⟨e, hz⟩ | ⟨g, o, cap, cur, e, _⟩
      · injection e with e1 e2 e3; cases e1
      · injection e with e1 e2 e3; injection e1 with e1; injection e1
    subst hsp
    have hr := (h.alloc (.cells #[] 9)).reads
    have hrow := Lib.hid (row_lit0 w w.heap.size 9 1 (Nat.le_refl _))
    clear h
    go_enter Tryd.func14, Tryd.ntmps14
    go_wp2_with (at_builtin; refine wpList_append_lit0 _ rfl (.tmp 5) (.tmp 6) 27 rfl w.heap.size 9 i0 (.string ⟨#[]⟩) 1 16 Tryd.underlying27 hi hz0 hz1 hz2 rfl (by decide) w.heap.size rfl hrow.out (w.alloc (.cells #[] 9)).heap.size (some ⟨b, o, none⟩) n c (out.map Value.string) rfl hr (by unfold maxLen; omega) (by omega) (by simp) ?_)
    intro A2 c2 w2 hr2 hb2
    go_wp2
    go_ret
    refine ⟨A2, n, c2, rfl, ⟨by rw [strC_flat]; exact hr2.reads, hl⟩, ?_⟩
    exact ((Below.refl w.heap.size w).alloc (Nat.le_refl _) (.cells #[] 9)).trans (hb2.mono (by simp))
end Go.Proofs.YtopkcanfiefmaaaDoor
