/- Which lock was taken while which one was held: the plain lists; contract of ringref4.TraceOrder. -/
import Derived.Test.YtmfalafolpfhiaaToB
import Derived.Test.YtmfalafolpfhiaaRgD
namespace Go.Proofs.Ytmfalafolpfhiaa
open Go.RowKit Go.Maps
set_option maxHeartbeats 400000
set_option linter.unusedVariables false
set_option linter.unusedSimpArgs false
theorem take_one {l : List Int} {j : Nat} (h : j < l.length) : l.take (j + 1) = l.take j ++ [l.getD j 0] := by
  rw [List.take_succ_eq_append_getElem h]
  simp [List.getD, List.getElem?_eq_getElem h]
def outE (rs : List Rc) : Nat → List (Int × Int)
  | 0 => []
  | k + 1 => outE rs k ++ if (rs.getD k .zero).k = 1 then (hd (rs.take k) (rs.getD k .zero).t).map (fun h => (h, (rs.getD k .zero).o)) else []
theorem without1_mem {l : List Int} {x y : Int} (h : y ∈ without1 l x) : y ∈ l := by
  rcases idxI_cases l x with ⟨_, e⟩ | ⟨i, _, _, e⟩
  · rw [e] at h; exact h
  · rw [e] at h; exact List.mem_of_mem_eraseIdx h
theorem hd_mem (rs : List Rc) (t : Int) : ∀ k, k ≤ rs.length → ∀ x ∈ hd (rs.take k) t, ∃ j, j < k ∧ x = (rs.getD j .zero).o := by
  intro k
  induction k with
  | zero => intro _ x hx; simp [hd] at hx
  | succ k ih =>
    intro hk x hx
    rw [hd_take rs k (by omega)] at hx
    have up : x ∈ hd (rs.take k) t → ∃ j, j < k + 1 ∧ x = (rs.getD j .zero).o := fun h => by
      obtain ⟨j, h1, h2⟩ := ih (by omega) x h
      exact ⟨j, by omega, h2⟩
    unfold hd1 at hx
    split at hx
    · split at hx
      · rcases List.mem_append.1 hx with h | h
        · exact up h
        · simp at h; exact ⟨k, by omega, h⟩
      · split at hx
        · exact up (without1_mem hx)
        · exact up hx
    · exact up hx
theorem outE_ok {rs : List Rc} (hg : ∀ j, j < rs.length → (rs.getD j .zero).err = 0) : ∀ k, k ≤ rs.length → ∀ e ∈ outE rs k, OkE e := by
  intro k
  induction k with
  | zero => intro _ e he; cases he
  | succ k ih =>
    intro hk e he
    unfold outE at he
    rcases List.mem_append.1 he with h | h
    · exact ih (by omega) e h
    · split at h
      · obtain ⟨x, hx, rfl⟩ := List.mem_map.1 h
        obtain ⟨j, h1, rfl⟩ := hd_mem rs _ k (by omega) x hx
        have a := Rc.good (hg j (by omega))
        have b := Rc.good (hg k (by omega))
        exact ⟨⟨by omega, by omega⟩, ⟨by dsimp only; omega, by dsimp only; omega⟩⟩
      · cases h
theorem outE_len (rs : List Rc) : ∀ k, k ≤ rs.length → k ≤ 400 → (outE rs k).length ≤ k * 400 := by
  intro k
  induction k with
  | zero => intro _ _; simp [outE]
  | succ k ih =>
    intro hk h4
    have h1 := ih (by omega) (by omega)
    unfold outE
    rw [List.length_append]
    split
    · rw [List.length_map]
      have := hd_len rs (rs.getD k .zero).t k (by omega)
      omega
    · rw [List.length_nil, Nat.add_zero]; exact Nat.le_trans h1 (Nat.mul_le_mul_right _ (Nat.le_succ k))
/-- The edges that P says, rising. -/
def lexRow (P : Int × Int → Bool) (h m : Nat) : List (Int × Int) := ((List.range m).filter (fun t => P ((h : Int), ((t : Nat) : Int)))).map (fun (t : Nat) => ((h : Int), (t : Int)))
def lexTo (P : Int × Int → Bool) (k : Nat) : List (Int × Int) := (List.range k).flatMap (fun h => lexRow P h 64)
theorem lexRow_succ (P : Int × Int → Bool) (h m : Nat) : lexRow P h (m + 1) = lexRow P h m ++ if P ((h : Int), (m : Int)) = true then [((h : Int), (m : Int))] else [] := by
  unfold lexRow
  rw [List.range_succ, List.filter_append, List.map_append]
  cases hp : P ((h : Int), (m : Int)) <;> simp [hp]
theorem lexRow_len (P : Int × Int → Bool) (h m : Nat) : (lexRow P h m).length ≤ m := by
  unfold lexRow
  rw [List.length_map]
  have := List.length_filter_le (fun (t : Nat) => P ((h : Int), ((t : Nat) : Int))) (List.range m)
  simpa using this
set_option maxRecDepth 100000 in
theorem lexTo_succ (P : Int × Int → Bool) (k : Nat) : lexTo P (k + 1) = lexTo P k ++ lexRow P k 64 := by
  unfold lexTo
  rw [List.range_succ, List.flatMap_append]
  simp only [List.flatMap_cons, List.flatMap_nil, List.append_nil]
set_option maxRecDepth 100000 in
theorem lexTo_len (P : Int × Int → Bool) (k : Nat) : (lexTo P k).length ≤ k * 64 := by
  induction k with
  | zero => simp [lexTo]
  | succ k ih =>
    rw [lexTo_succ, List.length_append]
    have := lexRow_len P k 64
    omega
def ordL (rs : List Rc) : List (Int × Int) := if traceErr rs = 0 then lexTo (fun e => decide (e ∈ outE rs rs.length)) 64 else []
/-- What both answer. -/
def OrdPost (rs : List Rc) (w : World) (e : Ending) (w' : World) : Prop :=
  ∃ v, e = .returned (.tuple #[v, .int .i64 (traceErr rs)]) ∧ Row w' w.heap.size 37 2 v (ordL rs).length ((ordL rs).flatMap edgeCl) ∧ Below w.heap.size w w'
theorem ord_bad {rs : List Rc} {w w' : World} {e : Ending} {x : Int} (h : traceErr rs = x) (hx : x ≠ 0) (he : e = .returned (.tuple #[.slice none 0 0, .int .i64 x])) (hb : Below w.heap.size w w') : OrdPost rs w e w' := by
  have e1 : ordL rs = [] := if_neg (by rw [h]; exact hx)
  exact ⟨_, by rw [he, h], by rw [e1]; exact Row.nil _ _ _ _, hb⟩
theorem traceErr_good {rs : List Rc} (h : traceErr rs = 0) : rs.length ≤ 400 ∧ ∀ j, j < rs.length → (rs.getD j .zero).err = 0 := by
  unfold traceErr at h
  split at h
  · cases h
  · refine ⟨by omega, ?_⟩
    have key : ∀ k, k ≤ rs.length → ∀ j, j < k → (rs.getD j .zero).err = 0 := by
      intro k
      induction k with
      | zero => intro _ j hj; omega
      | succ k ih =>
        intro hk j hj
        have hi := ih (by omega)
        by_cases hjk : j < k
        · exact hi j hjk
        · obtain rfl : j = k := by omega
          refine Classical.byContradiction fun hne => ?_
          rw [errs_take rs j hi (by omega) hne] at h
          exact hne h
    exact fun j hj => key rs.length (Nat.le_refl _) j hj
theorem Try.infoE : (Try.prog.info? 37).map (fun i => (i.zero, i.size, i.bytes)) = some (some (.agg #[.int .i64 0, .int .i64 0]), 2, 16) := by kernel_rfl
theorem edge_read (w : World) (X : Obj) (a b : Int) : Reads ((w.alloc X).alloc (.cells #[.int .i64 a, .int .i64 b] 37)) (w.heap.size + 2) 2 (some ⟨w.heap.size + 1, 0, none⟩) 1 [.int .i64 a, .int .i64 b] := by
  refine ⟨rfl, fun _ => ⟨w.heap.size + 1, 0, rfl, by omega, fun j u hu => ?_⟩⟩
  have := (Blk.new (w.alloc X) #[.int .i64 a, .int .i64 b] 37).cell (0 + j)
  rw [World.size_alloc] at this
  rw [this]
  simpa using hu
theorem edge_read1 (w : World) (a b : Int) : Reads (w.alloc (.cells #[.int .i64 a, .int .i64 b] 37)) (w.heap.size + 1) 2 (some ⟨w.heap.size, 0, none⟩) 1 [.int .i64 a, .int .i64 b] := by
  refine ⟨rfl, fun _ => ⟨w.heap.size, 0, rfl, by omega, fun j u hu => ?_⟩⟩
  have := (Blk.new w #[.int .i64 a, .int .i64 b] 37).cell (0 + j)
  rw [this]
  simpa using hu
theorem edges_len (es : List (Int × Int)) : (es.flatMap edgeCl).length = es.length * 2 := by
  induction es with
  | nil => rfl
  | cons a l ih => rw [List.flatMap_cons, List.length_append, ih]; simp [edgeCl]; omega
set_option maxHeartbeats 4000000 in
set_option maxRecDepth 100000 in
theorem traceOrder_any (A : Option Addr) (n c : Nat) (rs : List Rc) (w : World) (B : Nat) (h : RR w B A n rs) (hB : B ≤ w.heap.size) (hn : n ≤ 9223372036854775807) :
    Calls Try.prog 12 #[.slice A n c] w (OrdPost rs w) := by
  have HL := Lib.hid h.2
  have hmk : ∀ W : World, (Instr.makeMap 47 none).run Try.prog W = .ok (.map (some W.heap.size)) (W.alloc (.map #[] 0)) := by intro W; rfl
  obtain ⟨i0, hi, hz0, hz1, hz2⟩ := info_parts Try.infoE
  have HF := Lib.hid (fault_any A n c rs w B h hB hn)
  by_cases ht : traceErr rs = 0
  case neg =>
    have HT := Lib.hid ht
    have d : (traceErr rs != 0) = true := by simpa using ht
    have HX : Hid (∃ x, traceErr rs = x) := Lib.hid ⟨_, rfl⟩
    obtain ⟨x, hx⟩ := HX.out
    rw [hx] at HF d
    have HXX := Lib.hid hx
    clear ht hx HX
    go_enter Try.func12, Try.ntmps12
    go_wp2_with (go_at_call 27; refine HF.out.mono ?_; rintro e w1 ⟨rfl, hb1⟩)
    go_ret2
    exact ord_bad HXX.out (by rw [← HXX.out]; exact HT.out) rfl hb1
  obtain ⟨hsm, hgd⟩ := traceErr_good ht
  rw [ht] at HF
  have HT := Lib.hid ht
  have HG := Lib.hid hgd
  have hn4 : n ≤ 400 := by rw [← HL.out]; exact hsm
  have HOL : Hid (ordL rs = lexTo (fun e => decide (e ∈ outE rs rs.length)) 64) := Lib.hid (if_pos ht)
  clear ht hgd hsm
  go_enter Try.func12, Try.ntmps12
  go_wp2_with (go_at_call 27; refine HF.out.mono ?_; rintro e w4 ⟨rfl, hb4⟩)
  have hz4 := hb4.size
  have hs0 := ESet.made w4
  have hb0 : Below w.heap.size w (w4.alloc (.map #[] 0)) := hb4.alloc hz4 _
  obtain ⟨b, hb⟩ : ∃ b, b = w4.heap.size := ⟨_, rfl⟩
  obtain ⟨W0, hW0⟩ : ∃ W0, W0 = w4.alloc (.map #[] 0) := ⟨_, rfl⟩
  have hbw : w.heap.size ≤ b := by omega
  rw [← hb] at hs0
  rw [← hW0] at hs0 hb0 ⊢
  rw [← hb]
  clear hb hW0 hb4 hz4 HF
  go_loopw [21] (fun i wr => ∃ (k : Nat) (L : Int × Int → Bool), k ≤ n ∧ i = .int .i64 k ∧ Hid (ESet wr b (outE rs k).length L) ∧ Hid (∀ e, L e = true ↔ e ∈ outE rs k) ∧ Hid (Below w.heap.size w wr)) (fun i _ => n - (intOf i).toNat)
  case atStart => exact ⟨0, _, by omega, rfl, Lib.hid hs0, Lib.hid (fun e => by simp [outE]), Lib.hid hb0⟩
  case round =>
    clear hs0 hb0
    obtain ⟨k, L, hk, rfl, HS, HM, HBW⟩ := hrel
    by_cases hlt : k < n
    · obtain ⟨b2, o2, rfl, hbb, k0, k1, k2, k3⟩ := (h.below' HBW.out hB).at_ hlt
      have hkn : (k : Int) < n := by omega
      have hkl : k < rs.length := by rw [HL.out]; exact hlt
      have hbr : b2 < wr.heap.size := by have := HBW.out.size; omega
      have hg := Rc.good (HG.out k hkl)
      have HOE : Hid (outE rs (k + 1) = outE rs k ++ if (rs.getD k .zero).k = 1 then (hd (rs.take k) (rs.getD k .zero).t).map (fun h => (h, (rs.getD k .zero).o)) else []) := Lib.hid rfl
      have hol := outE_len rs k (by omega) (by omega)
      have hhl := hd_len rs (rs.getD k .zero).t k (by omega)
      have HHO : Hid (∀ x ∈ hd (rs.take k) (rs.getD k .zero).t, OkN x) := Lib.hid (fun x hx => by
        obtain ⟨j, hj, rfl⟩ := hd_mem rs _ k (by omega) x hx
        have := Rc.good (HG.out j (by omega))
        exact ⟨by omega, by omega⟩)
      have HH := Lib.hid (fun W (hb : Below w.heap.size w W) => holding_any (some ⟨b2, o2, none⟩) n c rs (rs.getD k .zero).t k W B (h.below' hb hB) (by have := hb.size; omega) (by omega) hn4)
      generalize rs.getD k .zero = r at *
      obtain ⟨rk, rc, rt, ro⟩ := r
      dsimp only at k0 k1 k2 k3 hg HOE hhl HHO HH
      have HS2 := Lib.hid (HS.out.alloc (.cells #[.int .i64 rk, .int .i64 rc, .int .i64 rt, .int .i64 ro] 51))
      have HB2 := Lib.hid (HBW.out.alloc HBW.out.size (.cells #[.int .i64 rk, .int .i64 rc, .int .i64 rt, .int .i64 ro] 51))
      have hbwr := HS.out.lt
      by_cases hk1 : rk = 1
      · subst hk1
        have HOE2 := Lib.hid (HOE.out.trans (by rw [if_pos rfl]))
        have hgo : OkN ro := ⟨by omega, by omega⟩
        clear hg HOE
        go_wp2_with fail
        refine (HH.out _ HB2.out).mono ?_
        rintro e w6 ⟨A6, c6, rfl, hr6, hb6⟩
        have hbx6 : Blk w6 wr.heap.size #[.int .i64 1, .int .i64 rc, .int .i64 rt, .int .i64 ro] 51 := (Blk.new wr _ 51).fr (Fr.of_grow hb6) (fun h => h)
        have HS6 := Lib.hid (HS2.out.grow hb6)
        have HB6 := Lib.hid (HB2.out.trans (hb6.mono HB2.out.size))
        generalize hd (rs.take k) rt = hs at *
        have HR6 := Lib.hid hr6
        have HBX6 := Lib.hid hbx6
        clear hr6 hbx6 hb6 HH HS2 HB2 HS HBW
        go_wp2
        go_loopw [35] (fun i wr' => ∃ (j : Nat) (L' : Int × Int → Bool), j ≤ hs.length ∧ i = .int .i64 j ∧ Hid (ESet wr' b ((outE rs k).length + j) L') ∧ Hid (∀ e, L' e = true ↔ e ∈ outE rs k ++ (hs.take j).map (fun h => (h, ro))) ∧
          Hid (Blk wr' wr.heap.size #[.int .i64 1, .int .i64 rc, .int .i64 rt, .int .i64 ro] 51) ∧ Hid (Row wr' (wr.heap.size + 1) 3 1 (.slice A6 hs.length c6) hs.length (hs.map (Value.int .i64))) ∧ Hid (Below w.heap.size w wr')) (fun i _ => hs.length - (intOf i).toNat)
        case atStart => exact ⟨0, L, by omega, rfl, HS6, Lib.hid (fun e => by simpa using HM.out e), HBX6, Lib.hid (by have := HR6.out; rw [World.size_alloc] at this; exact this), HB6⟩
        case round =>
          clear HS6 HBX6 HR6 HB6
          obtain ⟨j, L', hj, rfl, HS7, HM7, HBX, HR7, HB7⟩ := hrel
          by_cases hjl : j < hs.length
          · obtain ⟨b7, o7, rfl, hb7, hc7⟩ := (RD.of_row HR7.out).at_ hjl
            have hjz : (j : Int) < hs.length := by omega
            have hok : OkE (hs.getD j 0, ro) := ⟨HHO.out _ (getD_memI hjl), hgo⟩
            have HTK := Lib.hid (take_one hjl)
            obtain ⟨w8, hup, hs8, hg8⟩ := HS7.out.update (by unfold maxLen; omega) hok
            generalize hs.getD j 0 = x at *
            have hup' : (Instr.mapUpdate 47 (.map (some b)) (.agg #[.int .i64 x, .int .i64 ro]) (.bool true)).run Try.prog wr = .ok () w8 := hup
            have HS8 := Lib.hid hs8
            have HM8 : Hid (∀ e, (if e = (x, ro) then true else L' e) = true ↔ e ∈ outE rs k ++ (hs.take (j + 1)).map (fun h => (h, ro))) := Lib.hid (fun e => by
              rw [HTK.out, List.map_append, ← List.append_assoc, List.mem_append, ← HM7.out e]
              by_cases he : e = (x, ro) <;> simp [he])
            have hbo := HBX.out.cell 3
            have hbf := HBX.out.free 3
            have hbl := HBX.out.lt
            have HBX8 := Lib.hid (HBX.out.grown hg8 (fun e => by injection e with e; omega))
            have HR8 := Lib.hid (HR7.out.grown hg8 (fun k hk e => by have := HR7.out.lt k hk; injection e with e; omega))
            have HB8 := Lib.hid (HB7.out.grown hg8 HB7.out.size (fun k hk => by cases hk; exact hbw))
            clear hup hs8 hg8 HS7 HM7 HTK hok
            go_wp2
            go_roundw
            case rel => exact ⟨j + 1, _, by omega, by go_num, HS8, HM8, HBX8, HR8, HB8⟩
            case measure => simp [intOf]; omega
          · obtain rfl : j = hs.length := by omega
            have HS9 : Hid (ESet wr b (outE rs (k + 1)).length L') := Lib.hid (by rw [HOE2.out, List.length_append, List.length_map]; exact HS7.out)
            have HM9 : Hid (∀ e, L' e = true ↔ e ∈ outE rs (k + 1)) := Lib.hid (fun e => by rw [HOE2.out]; have := HM7.out e; rw [List.take_length] at this; exact this)
            go_wp2
            exact ⟨⟨k + 1, L', by omega, by go_num, HS9, HM9, HB7⟩, by simp [intOf]; omega⟩
      · have d : (rk == 1) = false := by simpa using hk1
        have HOE2 := Lib.hid (HOE.out.trans (by rw [if_neg hk1, List.append_nil]))
        clear hk1 hg HOE HH HHO
        go_wp2
        go_roundw
        case rel => exact ⟨k + 1, L, by omega, by go_num, by rw [HOE2.out]; exact HS2, by rw [HOE2.out]; exact HM, HB2⟩
        case measure => simp [intOf]; omega
    · obtain rfl : k = n := by omega
      have hol := outE_len rs k (by rw [HL.out]; omega) (by omega)
      have HP : Hid (∀ e, L e = decide (e ∈ outE rs rs.length)) := Lib.hid (fun e => by
        have := HM.out e
        rw [HL.out]
        cases hL : L e with
        | true => simp [this.1 hL]
        | false => symm; rw [decide_eq_false_iff_not]; intro hx; rw [this.2 hx] at hL; cases hL)
      have HOL2 : Hid (ordL rs = lexTo L 64) := Lib.hid (by rw [HOL.out]; congr 1; funext e; exact (HP.out e).symm)
      clear HM HP HOL
      go_wp2
      go_loopw [10, 11] (fun v i wr => ∃ g : Nat, g ≤ 64 ∧ i = .int .i64 g ∧ Hid (Row wr w.heap.size 37 2 v (lexTo L g).length ((lexTo L g).flatMap edgeCl)) ∧ Hid (ESet wr b (outE rs k).length L) ∧ Hid (Below w.heap.size w wr)) (fun _ i _ => 64 - (intOf i).toNat)
      case atStart => exact ⟨0, by omega, rfl, Lib.hid (Row.nil _ _ _ _), HS, HBW⟩
      case round =>
        clear HS HBW
        obtain ⟨g, hg, rfl, HR, HS, HBW⟩ := hrel
        by_cases hg64 : g < 64
        · have hgz : (g : Int) < 64 := by omega
          have hlt1 := lexTo_len L g
          go_wp2
          go_loopw [10, 12] (fun v i wr => ∃ m : Nat, m ≤ 64 ∧ i = .int .i64 m ∧ Hid (Row wr w.heap.size 37 2 v (lexTo L g ++ lexRow L g m).length ((lexTo L g ++ lexRow L g m).flatMap edgeCl)) ∧ Hid (ESet wr b (outE rs k).length L) ∧ Hid (Below w.heap.size w wr)) (fun _ i _ => 64 - (intOf i).toNat)
          case atStart => exact ⟨0, by omega, rfl, Lib.hid (by have e : lexRow L g 0 = [] := rfl; rw [e, List.append_nil]; exact HR.out), HS, HBW⟩
          case round =>
            clear HR HS HBW
            obtain ⟨m, hm, rfl, HR, HS, HBW⟩ := hrel
            by_cases hm64 : m < 64
            · have hmz : (m : Int) < 64 := by omega
              have hlk := HS.out.look (e := ((g : Int), (m : Int))) ⟨⟨by show (0 : Int) ≤ g; omega, by show (g : Int) ≤ 63; omega⟩, ⟨by show (0 : Int) ≤ m; omega, by show (m : Int) ≤ 63; omega⟩⟩
              have hlk' : (Instr.lookup 47 (.map (some b)) (.agg #[.int .i64 g, .int .i64 m]) false).run Try.prog wr = .ok (.bool (L ((g : Int), (m : Int)))) wr := hlk
              have HLS := Lib.hid (lexRow_succ L g m)
              have hlr := lexRow_len L g m
              have hjl : (lexTo L g ++ lexRow L g m).length ≤ 4096 := by rw [List.length_append]; omega
              clear hlk
              obtain ⟨A8, c8, rfl, hc8, -⟩ := HR.out.shape
              cases hL : L ((g : Int), (m : Int)) with
              | false =>
                rw [hL] at hlk'
                have HE : Hid (lexTo L g ++ lexRow L g (m + 1) = lexTo L g ++ lexRow L g m) := Lib.hid (by rw [HLS.out, hL]; simp)
                clear hL HLS
                go_wp2
                go_roundw
                case rel => exact ⟨m + 1, by omega, by go_num, by rw [HE.out]; exact HR, HS, HBW⟩
                case measure => simp [intOf]; omega
              | true =>
                rw [hL] at hlk'
                have HE : Hid (lexTo L g ++ lexRow L g (m + 1) = (lexTo L g ++ lexRow L g m) ++ [((g : Int), (m : Int))]) := Lib.hid (by rw [HLS.out, hL, if_pos rfl, List.append_assoc])
                have hbs := HBW.out.size
                clear hL HLS hlr
                generalize lexTo L g ++ lexRow L g m = js at *
                go_wp2_with (at_builtin; refine wpList_append_row _ rfl (.tmp 59) (.tmp 63) 22 rfl w.heap.size 37 i0 (.agg #[.int .i64 0, .int .i64 0]) 2 16 Try.underlying22 hi hz0 hz1 hz2 rfl (by decide) (.slice A8 js.length c8) js.length (js.flatMap edgeCl) rfl (HR.out.alloc _) (wr.heap.size + 1) (some ⟨wr.heap.size, 0, none⟩) 1 1 [.int .i64 g, .int .i64 m] rfl (edge_read1 wr g m) (by simp [Value.oneCell']) (by unfold maxLen; omega) (by omega) (by simp; omega) ?_)
                intro A9 c9 w9 hr9 hg9 ho9
                have hl9 : (js ++ [((g : Int), (m : Int))]).length = js.length + 1 := by simp
                have HR9 : Hid (Row w9 w.heap.size 37 2 (.slice A9 (js.length + 1) c9) (js ++ [((g : Int), (m : Int))]).length ((js ++ [((g : Int), (m : Int))]).flatMap edgeCl)) := Lib.hid (by
                  rw [hl9, List.flatMap_append]; simpa [edgeCl] using hr9)
                have HS9 := Lib.hid ((HS.out.alloc (.cells #[.int .i64 g, .int .i64 m] 37)).grown hg9 (fun e => by
                  obtain ⟨D, ⟨es, cc, h1, _⟩, _⟩ := (HS.out.alloc (.cells #[.int .i64 g, .int .i64 m] 37))
                  rcases (HR.out.alloc (.cells #[.int .i64 g, .int .i64 m] 37)).2 with ⟨e1, _⟩ | ⟨g', o', cap, cur, e1, _, hh, _⟩
                  · injection e1 with e1; subst e1; simp [Value.ownBlock] at e
                  · injection e1 with e1; subst e1
                    have : g' = b := by simpa [Value.ownBlock] using e
                    subst this
                    rw [h1] at hh
                    injection hh with hh
                    cases hh))
                have HB9 := Lib.hid ((HBW.out.alloc hbs (.cells #[.int .i64 g, .int .i64 m] 37)).grown hg9 (by simp; omega) (fun k hk => (HR.out.lt k hk).1))
                clear hr9 hg9 ho9
                go_wp2
                go_roundw
                case rel => exact ⟨m + 1, by omega, by go_num, by rw [HE.out]; exact HR9, HS9, HB9⟩
                case measure => simp [intOf]; omega
            · obtain rfl : m = 64 := by omega
              have HR2 : Hid (Row wr w.heap.size 37 2 _ (lexTo L (g + 1)).length ((lexTo L (g + 1)).flatMap edgeCl)) := Lib.hid (by rw [lexTo_succ]; exact HR.out)
              go_wp2
              exact ⟨⟨g + 1, by omega, by go_num, HR2, HS, HBW⟩, by simp [intOf]; omega⟩
        · obtain rfl : g = 64 := by omega
          obtain ⟨A8, c8, rfl, hc8, -⟩ := HR.out.shape
          have HRO : Hid (Row wr w.heap.size 37 2 (.slice A8 (lexTo L 64).length c8) (ordL rs).length ((ordL rs).flatMap edgeCl)) := Lib.hid (by rw [HOL2.out]; exact HR.out)
          go_wp2
          go_ret2
          exact ⟨_, by rw [HT.out]; rfl, HRO.out, HBW.out⟩
end Go.Proofs.Ytmfalafolpfhiaa
