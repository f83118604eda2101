/- Contract of ringref4.holding. -/
import Derived.Test.YtjdbclcafjlohaaTkE
namespace Go.Proofs.Ytjdbclcafjlohaa
open Go.RowKit
set_option maxHeartbeats 400000
set_option linter.unusedVariables false
set_option linter.unusedSimpArgs false
def obAt (rs : List Rc) (p : Nat) : Int := (rs.getD p .zero).o
def plc (ls : List Nat) : List Value := ls.map fun p : Nat => .int .i64 (p : Int)
structure AtRel (w : World) (rs : List Rc) (t : Int) (k : Nat) (ls : List Nat) (v : Value) (wr : World) : Prop where
  row : Row wr w.heap.size 3 1 v ls.length (plc ls)
  eq : ls.map (obAt rs) = hd (rs.take k) t
  lt : ∀ p ∈ ls, p < k
  low : Below w.heap.size w wr
theorem plc_one (ls : List Nat) : ∀ u ∈ plc ls, u.oneCell' = true := by
  intro u hu
  obtain ⟨p, _, rfl⟩ := List.mem_map.1 hu
  rfl
theorem plc_at {ls : List Nat} {j : Nat} (h : j < ls.length) : (plc ls)[j]? = some (.int .i64 ((ls.getD j 0 : Nat) : Int)) := by
  simp [plc, List.getElem?_map, List.getD, List.getElem?_eq_getElem h]
theorem at_len {rs : List Rc} {t : Int} {k : Nat} {ls : List Nat} (h : ls.map (obAt rs) = hd (rs.take k) t) (hk : k ≤ rs.length) : ls.length ≤ k := by
  have := congrArg List.length h
  rw [List.length_map] at this
  rw [this]; exact hd_len rs t k hk
/-- No place of x ahead of j. -/
def noAhead (rs : List Rc) (ls : List Nat) (x : Int) (j : Nat) : Prop := ∀ i, i < j → obAt rs (ls.getD i 0) ≠ x
theorem no_next {rs : List Rc} {ls : List Nat} {x : Int} {j : Nat} (h : noAhead rs ls x j) (hx : obAt rs (ls.getD j 0) ≠ x) : noAhead rs ls x (j + 1) := fun i hi => by
  rcases Nat.lt_or_ge i j with hij | hij
  · exact h i hij
  · obtain rfl : i = j := by omega
    exact hx
theorem find_none {rs : List Rc} {ls : List Nat} {x : Int} (h : noAhead rs ls x ls.length) : without1 (ls.map (obAt rs)) x = ls.map (obAt rs) := by
  unfold without1
  have : (ls.map (obAt rs)).findIdx? (· == x) = none := by
    rw [List.findIdx?_eq_none_iff]
    intro y hy
    obtain ⟨p, hp, rfl⟩ := List.mem_map.1 hy
    obtain ⟨i, hi, rfl⟩ := List.mem_iff_getElem.1 hp
    have := h i hi
    simpa [List.getD, List.getElem?_eq_getElem hi] using this
  rw [this]
theorem find_at {rs : List Rc} {ls : List Nat} {x : Int} {j : Nat} (hj : j < ls.length) (h : noAhead rs ls x j) (hx : obAt rs (ls.getD j 0) = x) : without1 (ls.map (obAt rs)) x = (ls.take j ++ ls.drop (j + 1)).map (obAt rs) := by
  unfold without1
  have : (ls.map (obAt rs)).findIdx? (· == x) = some j := by
    rw [List.findIdx?_eq_some_iff_getElem]
    refine ⟨by simpa using hj, by simpa [List.getD, List.getElem?_eq_getElem hj] using hx, fun i hi => ?_⟩
    have := h i hi
    simpa [List.getD, List.getElem?_eq_getElem (Nat.lt_trans hi hj)] using this
  rw [this]
  dsimp only
  rw [List.eraseIdx_eq_take_drop_succ]
  simp [List.map_take, List.map_drop]
theorem cut_reads {w : World} {base g o n c k : Nat} {e : TypeId} {xs : List Value} {A8 : Option Addr} (h : Row w base e 1 (.slice (some ⟨g, o, none⟩) n c) n xs) (hk : k ≤ n) (hA : (if c = k then (some ⟨g, o, none⟩ : Option Addr) else some ⟨g, o + k, none⟩) = A8) : Reads w w.heap.size 1 A8 (n - k) (xs.drop k) := by
  have := (h.cut hk).reads
  rw [Nat.mul_one] at this
  subst hA
  simpa [add_plain] using this
theorem AtRel.next {w wr w' : World} {rs : List Rc} {t : Int} {k : Nat} {ls ls' : List Nat} {v v' : Value} (h : AtRel w rs t k ls v wr) (hk : k < rs.length) (hr : Row w' w.heap.size 3 1 v' ls'.length (plc ls')) (hb : Below w.heap.size w w')
    (he : ls'.map (obAt rs) = hd1 t (ls.map (obAt rs)) (rs.getD k .zero)) (hl : ∀ p ∈ ls', p < k + 1) : AtRel w rs t (k + 1) ls' v' w' :=
  ⟨hr, by rw [he, h.eq, hd_take rs k hk], hl, hb⟩
theorem AtRel.start {w : World} (rs : List Rc) (t : Int) : AtRel w rs t 0 [] (.slice none 0 0) w := ⟨Row.nil _ _ _ _, rfl, fun p hp => by simp at hp, Below.refl _ _⟩
def HoldPost (rs : List Rc) (t : Int) (m : Nat) (w : World) (e : Ending) (w' : World) : Prop :=
  ∃ A c, e = .returned (.slice A (hd (rs.take m) t).length c) ∧ Row w' w.heap.size 3 1 (.slice A (hd (rs.take m) t).length c) (hd (rs.take m) t).length ((hd (rs.take m) t).map (Value.int .i64)) ∧ Below w.heap.size w w'
theorem Blk.box {w : World} {rs : List Value} (cs : Array Value) (t : TypeId) : Blk (w.alloc (.cells cs t)) w.heap.size cs t := Blk.new _ _ _
set_option maxHeartbeats 4000000 in
set_option maxRecDepth 100000 in
theorem holding_any (A : Option Addr) (n c : Nat) (rs : List Rc) (t : Int) (m : Nat) (w : World) (B : Nat) (h : RR w B A n rs) (hB : B ≤ w.heap.size) (hm : m ≤ n) (hn : n ≤ 400) :
    Calls Try.prog 45 #[.slice A n c, .int .i64 m, .int .i64 t] w (HoldPost rs t m w) := by
  have HL := Lib.hid h.2
  obtain ⟨i0, hi, hz0, hz1, hz2⟩ := info_parts Try.infoI
  go_enter Try.func45, Try.ntmps45
  go_wp2
  go_loopw [7, 8] (fun v i wr => ∃ k ls, k ≤ m ∧ i = .int .i64 (k : Nat) ∧ AtRel w rs t k ls v wr) (fun _ i _ => m - (intOf i).toNat)
  case atStart => exact ⟨0, [], by omega, rfl, .start rs t⟩
  case round =>
    obtain ⟨k, ls, hk, rfl, hat⟩ := hrel
    have hlk := at_len hat.eq (by rw [HL.out]; omega)
    obtain ⟨A7, c7, hv, hc1, hc2⟩ := hat.row.shape
    subst hv
    unfold maxLen at hc2
    by_cases hlt : k < m
    · obtain ⟨b, of, rfl, hb, d0, d1, d2, d3⟩ := (h.below' hat.low hB).at_ (show k < n by omega)
      have hlen : k < rs.length := by rw [HL.out]; omega
      have hNx := Lib.hid (fun w' ls' v' => hat.next (w' := w') (ls' := ls') (v' := v') hlen)
      have hbw' : ∀ X, Below w.heap.size w (wr.alloc X) := fun X => hat.low.alloc hat.low.size X
      have hlow : ∀ p ∈ ls, p < k + 1 := fun p hp => Nat.lt_succ_of_lt (hat.lt p hp)
      have hsz := hat.low.size
      have HO := Lib.hid (show obAt rs k = (rs.getD k .zero).o from rfl)
      generalize rs.getD k .zero = r at *
      by_cases htt : r.t = t
      · have htt' : (r.t != t) = false := by simpa using htt
        have HTT := Lib.hid htt
        clear htt
        by_cases k1 : r.k = 1
        · have K1 := Lib.hid k1
          go_wp2_with (at_builtin; refine wpList_append_row _ rfl (.tmp 31) (.tmp 33) 44 rfl w.heap.size 3 i0 (.int .i64 0) 1 8 Try.underlying44 hi hz0 hz1 hz2 rfl (by decide) (.slice A7 ls.length c7) ls.length (plc ls) rfl ((hat.row.alloc _).alloc _) (wr.heap.size + 2) (some ⟨wr.heap.size + 1, 0, none⟩) 1 1 [.int .i64 k] rfl (reads_two wr _ _ 3) (by simp [Value.oneCell']) (by unfold maxLen; omega) (by omega) (by simp; omega) ?_)
          intro A1 c1 w2 hr1 hg1 ho1
          have hbx := ((Blk.new wr #[.int .i64 1, .int .i64 r.c, .int .i64 r.t, .int .i64 r.o] 24).alloc (.cells #[.int .i64 k] 3)).grown hg1 (fun e => by have := (hat.row.lt _ e.symm).2; omega)
          have hcb := hbx.cell
          have hlb := hbx.lt
          go_wp2
          go_roundw
          case rel => exact ⟨k + 1, ls ++ [k], by omega, by go_num, hNx.out _ _ _ (by simpa [plc] using hr1) (((hbw' _).alloc (by simp; omega) _).grown hg1 (by simp; omega) (fun k hk => (hat.row.lt k hk).1)) (by simp [hd1, HTT.out, K1.out, HO.out]) (fun p hp => by rcases List.mem_append.1 hp with hp | hp; exact hlow p hp; simp at hp; omega)⟩
          case measure => simp [intOf]; omega
        by_cases k2 : r.k = 2
        · have K2 := Lib.hid k2
          obtain ⟨W, hW⟩ : ∃ W, W = wr := ⟨_, rfl⟩
          subst hW
          have hbx0 : Blk (W.alloc (.cells #[.int .i64 2, .int .i64 r.c, .int .i64 r.t, .int .i64 r.o] 24)) W.heap.size #[.int .i64 2, .int .i64 r.c, .int .i64 r.t, .int .i64 r.o] 24 := Blk.new _ _ _
          have hr0 := hat.row.alloc (.cells #[.int .i64 2, .int .i64 r.c, .int .i64 r.t, .int .i64 r.o] 24)
          have hb0 := hbw' (.cells #[.int .i64 2, .int .i64 r.c, .int .i64 r.t, .int .i64 r.o] 24)
          have hown := hat.row.lt
          go_wp2
          go_loopw [7, 40] (fun v i wr => ∃ j : Nat, j ≤ ls.length ∧ v = .slice A7 ls.length c7 ∧ i = .int .i64 j ∧ Hid (noAhead rs ls r.o j) ∧ Blk wr W.heap.size #[.int .i64 2, .int .i64 r.c, .int .i64 r.t, .int .i64 r.o] 24 ∧ Row wr w.heap.size 3 1 (.slice A7 ls.length c7) ls.length (plc ls) ∧ Below w.heap.size w wr) (fun _ i _ => ls.length - (intOf i).toNat)
          case atStart => exact ⟨0, by omega, rfl, rfl, Lib.hid (fun i hi => by omega), hbx0, hr0, hb0⟩
          case round =>
            obtain ⟨j, hj, rfl, rfl, hno, hbx, hrw, hbl⟩ := hrel
            clear hbx0 hr0 hb0 d0 d1 d2 d3
            by_cases hjl : j < ls.length
            · have hq := plc_at hjl
              obtain ⟨g, o, u, e7, hgb, hu, hcu⟩ := Reads.at_ hrw.reads hjl
              rw [hq] at hu
              injection hu with hu
              subst hu
              subst e7
              have hpm := hlow (ls.getD j 0) (by simp [List.getD, List.getElem?_eq_getElem hjl])
              obtain ⟨b', of', e', hb', _, _, _, x3⟩ := (h.below' hbl hB).at_ (show ls.getD j 0 < n by omega)
              injection e' with e1
              injection e1 with e1 e2
              subst e1; subst e2
              have hX := Lib.hid (show obAt rs (ls.getD j 0) = (rs.getD (ls.getD j 0) .zero).o from rfl)
              have hno2 := Lib.hid (fun hx : obAt rs (ls.getD j 0) ≠ r.o => no_next hno.out hx)
              have hfd := Lib.hid (fun hx => find_at hjl hno.out hx)
              generalize (rs.getD (ls.getD j 0) .zero).o = x at *
              generalize ls.getD j 0 = p at *
              have hcb := hbx.cell
              have hlb := hbx.lt
              have hpn : (p : Int) < n := by omega
              have hpn' : p < n := by omega
              by_cases hx : x = r.o
              · have hx' : (x == r.o) = true := by simpa using hx
                have hfd2 := Lib.hid (hfd.out (hX.out.trans hx))
                clear hx hq
                go_wp2
                refine wp_region_quiet_lit (by kernel_rfl) (by kernel_rfl) ?_
                repeat (go_big_quiet_step (fail))
                refine wpQuiet_nil ?_
                intro _ hw'
                obtain ⟨nq, rfl⟩ := hw'
                go_wp2_with fail
                have htk := (((hrw.fr ((Fr.refl Nil _).drewN nq) (fun _ _ h => h)).drew.alloc (.cells #[] 3)).take (k := j) (by omega)).reads
                rw [Nat.mul_one] at htk
                have hrow0 : Row ((wr.drewN nq).drew.alloc (.cells #[] 3)) w.heap.size 3 1 (.slice (some ⟨wr.heap.size, 0, none⟩) 0 0) 0 [] := ⟨rfl, .inr ⟨wr.heap.size, 0, 0, #[], rfl, hbl.size, Blk.new (wr.drewN nq).drew #[] 3, Nat.le_refl _, by simp, by simp, fun j u hu => by simp at hu⟩⟩
                obtain ⟨A8, hA8⟩ : ∃ A8, (if c7 = j + 1 then (some ⟨g, o, none⟩ : Option Addr) else some ⟨g, o + (j + 1), none⟩) = A8 := ⟨_, rfl⟩
                have HA8 := Lib.hid hA8
                have hgw : g ≠ wr.heap.size := by omega
                have hafter : ∀ (w2 : World) (A1 : Option Addr) (c1 : Nat), Row w2 w.heap.size 3 1 (.slice A1 (0 + j) c1) (0 + j) ([] ++ (plc ls).take j) → ((wr.drewN nq).drew.alloc (.cells #[] 3)).grownBy w2 (Value.slice (some ⟨wr.heap.size, 0, none⟩) 0 0).ownBlock →
                    Row w2 w.heap.size 3 1 (.slice A1 j c1) j ((plc ls).take j) ∧ Reads w2 w2.heap.size 1 A8 (ls.length - (j + 1)) ((plc ls).drop (j + 1)) ∧ w.heap.size ≤ w2.heap.size := by
                  intro w2 A1 c1 hr1 hg1
                  refine ⟨by simpa using hr1, cut_reads (k := j + 1) (((hrw.fr ((Fr.refl Nil _).drewN nq) (fun _ _ h => h)).drew.alloc (.cells #[] 3)).grown hg1 (fun k hk e => ?_)) (by omega) HA8.out, ?_⟩
                  · simp [Value.ownBlock] at hk e; omega
                  · have h1 := hg1.size; have h2 := hbl.size
                    simp at h1; omega
                have q1 : (j : Int) ≤ c7 := by omega
                have q2 : (j : Int) + 1 ≤ ls.length := by omega
                have q3 : (0 : Int) ≤ (j : Int) + 1 := by omega
                have q4 : IntKind.i64.wrap ((j : Int) + 1) = (j : Int) + 1 := IntWalk.i64_in _ (by omega)
                have q5 : ((j : Int) + 1).toNat = j + 1 := by omega
                go_region_law (first | (refine step_append_row rfl (.tmp 53) (.tmp 56) 44 rfl w.heap.size 3 i0 (.int .i64 0) 1 8 Try.underlying44 hi hz0 hz1 hz2 rfl (by decide) (.slice (some ⟨wr.heap.size, 0, none⟩) 0 0) 0 [] (by simp [Act.eval, Act.put]) hrow0 _ (some ⟨g, o, none⟩) j c7 _ (by simp [Act.eval, Act.put]) htk (fun u hu => plc_one ls u (List.mem_of_mem_take hu)) (by unfold maxLen; omega) (by omega) (by simp; omega) ?_; intro A1 c1 w2 hr1 hg1 ho1; obtain ⟨hr1', hs1, hz1w⟩ := hafter w2 A1 c1 hr1 hg1) | (refine step_append_row rfl (.tmp 57) (.tmp 61) 44 rfl w.heap.size 3 i0 (.int .i64 0) 1 8 Try.underlying44 hi hz0 hz1 hz2 rfl (by decide) (.slice A1 j c1) j ((plc ls).take j) (by simp [Act.eval, Act.put]) hr1' _ A8 (ls.length - (j + 1)) (c7 - (j + 1)) _ (by simp [Act.eval, Act.put]) hs1 (fun u hu => plc_one ls u (List.mem_of_mem_drop hu)) (by unfold maxLen; omega) (by omega) hz1w ?_; intro A2 c2 w3 hr2 hg2 ho2))
                have hlen7 : (ls.take j ++ ls.drop (j + 1)).length = j + (ls.length - (j + 1)) := by rw [List.length_append, List.length_take, List.length_drop]; omega
                have hL7 := Lib.hid hlen7
                have hplc : plc (ls.take j ++ ls.drop (j + 1)) = (plc ls).take j ++ (plc ls).drop (j + 1) := by simp [plc, List.map_take, List.map_drop]
                have hP7 := Lib.hid hplc
                have hlow7 : ∀ p ∈ ls.take j ++ ls.drop (j + 1), p < k + 1 := fun p hp => hlow p (by rcases List.mem_append.1 hp with hp | hp; exact List.mem_of_mem_take hp; exact List.mem_of_mem_drop hp)
                have hB7 : Below w.heap.size w w3 := ((((tk_drewN hbl nq).drew.alloc (by simpa using hbl.size) (.cells #[] 3)).grown hg1 (by have := hbl.size; simp; omega) (fun k hk => by simp [Value.ownBlock] at hk; have := hbl.size; omega))).grown hg2 hz1w (fun k hk => (hr1'.lt k hk).1)
                clear hlen7 hplc q4 q5 hA8 hafter
                generalize hls7 : ls.take j ++ ls.drop (j + 1) = ls7 at *
                have HLS := Lib.hid hls7
                clear hls7
                rw [← hP7.out, ← hL7.out] at hr2
                rw [← hL7.out]
                clear hg1 hg2 ho1 ho2 hr1 hr1' hs1 htk hrow0 q1 q2 q3
                go_wp2
                go_roundw
                case rel => exact ⟨k + 1, ls7, by omega, by go_num, hNx.out _ _ _ hr2 hB7 (by simp [hd1, HTT.out, K2.out, hfd2.out]) hlow7⟩
                case measure => simp [intOf]; omega
              · have hx' : (x == r.o) = false := by simpa using hx
                have hno3 := Lib.hid (hno2.out (by rw [hX.out]; exact hx))
                clear hx hq
                go_wp2
                refine wp_region_quiet_lit (by kernel_rfl) (by kernel_rfl) ?_
                repeat (go_big_quiet_step (fail))
                refine wpQuiet_nil ?_
                intro _ hw'
                obtain ⟨nq, rfl⟩ := hw'
                go_wp2
                go_roundw
                case rel => exact ⟨j + 1, by omega, rfl, by go_num, hno3, hbx.drewN _, hrw.fr ((Fr.refl Nil _).drewN _) (fun _ _ h => h), tk_drewN hbl _⟩
                case measure => simp [intOf]; omega
            · obtain rfl : j = ls.length := by omega
              have hfd := Lib.hid (find_none hno.out)
              go_wp2
              go_roundw
              case rel => exact ⟨k + 1, ls, by omega, by go_num, hNx.out _ _ _ hrw hbl (by simp [hd1, HTT.out, K2.out, hfd.out]) hlow⟩
              case measure => simp [intOf]; omega
        go_wp2
        go_roundw
        case rel => exact ⟨k + 1, ls, by omega, by go_num, hNx.out _ _ _ (hat.row.alloc _) (hbw' _) (by simp [hd1, HTT.out, k1, k2]) hlow⟩
        case measure => simp [intOf]; omega
      · have htt' : (r.t != t) = true := by simpa using htt
        have HTT := Lib.hid htt
        clear htt
        go_wp2
        go_roundw
        case rel => exact ⟨k + 1, ls, by omega, by go_num, hNx.out _ _ _ (hat.row.alloc _) (hbw' _) (by simp [hd1, HTT.out]) hlow⟩
        case measure => simp [intOf]; omega
    · obtain rfl : k = m := by omega
      obtain ⟨W, hW⟩ : ∃ W, W = wr := ⟨_, rfl⟩
      subst hW
      have hrow0 : Row W W.heap.size 3 1 (.slice none 0 0) 0 [] := Row.nil _ _ _ _
      go_wp2
      go_loopw [12, 66] (fun v i wr => ∃ j : Nat, j ≤ ls.length ∧ i = .int .i64 j ∧ Row wr W.heap.size 3 1 v j ((ls.take j).map fun p => .int .i64 (obAt rs p)) ∧ Below W.heap.size W wr) (fun _ i _ => ls.length - (intOf i).toNat)
      case atStart => exact ⟨0, by omega, rfl, hrow0, Below.refl _ _⟩
      case round =>
        obtain ⟨j, hj, rfl, hrw, hbl⟩ := hrel
        clear hrow0
        obtain ⟨A6, c6, hv, hc3, hc4⟩ := hrw.shape
        subst hv
        unfold maxLen at hc4
        by_cases hjl : j < ls.length
        · have hq := plc_at hjl
          have hsz := hat.low.size
          have hsz2 := hbl.size
          obtain ⟨g, o, u, e7, hgb, hu, hcu⟩ := Reads.at_ (hat.row.grow hbl).reads hjl
          rw [hq] at hu
          injection hu with hu
          subst hu
          subst e7
          have hpm := hat.lt (ls.getD j 0) (by simp [List.getD, List.getElem?_eq_getElem hjl])
          obtain ⟨b, of, rfl, hb, _, _, _, x3⟩ := ((h.below' hat.low hB).below' hbl (by omega)).at_ (show ls.getD j 0 < n by omega)
          have hX := Lib.hid (show obAt rs (ls.getD j 0) = (rs.getD (ls.getD j 0) .zero).o from rfl)
          have hT := Lib.hid (show (ls.take (j + 1)).map (fun p => Value.int .i64 (obAt rs p)) = (ls.take j).map (fun p => Value.int .i64 (obAt rs p)) ++ [.int .i64 (obAt rs (ls.getD j 0))] by
            rw [List.take_succ_eq_append_getElem hjl, List.map_append, List.map_singleton, List.getD, List.getElem?_eq_getElem hjl]; rfl)
          generalize (rs.getD (ls.getD j 0) .zero).o = x at *
          generalize ls.getD j 0 = p at *
          have hpn : (p : Int) < n := by omega
          have hpn' : p < n := by omega
          clear hq
          go_wp2_with (at_builtin; refine wpList_append_row _ rfl (.tmp 70) (.tmp 76) 44 rfl W.heap.size 3 i0 (.int .i64 0) 1 8 Try.underlying44 hi hz0 hz1 hz2 rfl (by decide) (.slice A6 j c6) j _ rfl (hrw.alloc _) (wr.heap.size + 1) (some ⟨wr.heap.size, 0, none⟩) 1 1 [.int .i64 x] rfl (reads_one wr _ 3) (by simp [Value.oneCell']) (by unfold maxLen; omega) (by omega) (by simp; omega) ?_)
          intro A1 c1 w2 hr1 hg1 ho1
          have hB2 : Below W.heap.size W w2 := (hbl.alloc hsz2 _).grown hg1 (by simp; omega) (fun k hk => (hrw.lt k hk).1)
          have hr1' : Row w2 W.heap.size 3 1 (.slice A1 (j + 1) c1) (j + 1) ((ls.take (j + 1)).map fun p => .int .i64 (obAt rs p)) := by rw [hT.out, hX.out]; simpa [List.map_take] using hr1
          clear hr1
          go_wp2
          go_roundw
          case rel => exact ⟨j + 1, by omega, by go_num, hr1', hB2⟩
          case measure => simp [intOf]; omega
        · obtain rfl : j = ls.length := by omega
          have hsz := hat.low.size
          rw [List.take_length] at hrw
          have hlen : (hd (rs.take k) t).length = ls.length := by rw [← hat.eq, List.length_map]
          have HE := Lib.hid hat.eq
          have HH := Lib.hid hlen
          clear hlen
          have hlow := hat.low
          clear hat
          go_wp2
          go_ret
          exact ⟨A6, c6, by rw [HH.out]; rfl, by rw [HH.out, ← HE.out, List.map_map]; exact hrw.base_le hsz, hlow.trans (hbl.mono hsz)⟩
end Go.Proofs.Ytjdbclcafjlohaa
