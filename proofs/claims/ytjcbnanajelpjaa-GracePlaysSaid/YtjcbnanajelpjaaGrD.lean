/- Contract of grace.Run. -/
import Derived.Test.YtjcbnanajelpjaaGrC
namespace Go.Proofs.Ytjcbnanajelpjaa
open Go.RowKit
set_option maxHeartbeats 400000
set_option linter.unusedVariables false
set_option linter.unusedSimpArgs false
theorem Try.info133 : (Try.prog.info? 133).map (fun i => (i.zero, i.size, i.bytes)) = some (some (.agg #[.int .i64 0, .int .i64 0, .int .i64 0, .int .i64 0, .int .i64 0]), 5, 40) := by kernel_rfl
theorem reads_five (w : World) (a b c d e : Value) (t : TypeId) : Reads (w.alloc (.cells #[a, b, c, d, e] t)) (w.heap.size + 1) 5 (some ⟨w.heap.size, 0, none⟩) 1 [a, b, c, d, e] := by
  refine ⟨rfl, fun _ => ⟨w.heap.size, 0, rfl, by omega, fun j y hy => ?_⟩⟩
  rw [(Blk.new w #[a, b, c, d, e] t).cell, Nat.zero_add]
  simpa using hy
def ovs (d t : Nat → Int) (cs : List GC) : List GC := cs.filter (overB d t)
def lft (d t : Nat → Int) (cs : List GC) : List GC := cs.filter fun c => !overB d t c
theorem ovs_take (d t : Nat → Int) (cs : List GC) (k : Nat) (h : k < cs.length) : ovs d t (cs.take (k + 1)) = ovs d t (cs.take k) ++ if overB d t (cs.getD k .zero) then [cs.getD k .zero] else [] := by
  unfold ovs
  rw [List.take_succ_eq_append_getElem h, List.filter_append]
  simp [List.getD, List.getElem?_eq_getElem h, List.filter_cons]
theorem lft_take (d t : Nat → Int) (cs : List GC) (k : Nat) (h : k < cs.length) : lft d t (cs.take (k + 1)) = lft d t (cs.take k) ++ if overB d t (cs.getD k .zero) then [] else [cs.getD k .zero] := by
  unfold lft
  rw [List.take_succ_eq_append_getElem h, List.filter_append]
  cases hq : overB d t (cs.getD k .zero) <;> simp [List.getD, List.getElem?_eq_getElem h, List.filter_cons] at hq ⊢ <;> simp [hq]
theorem filt_len (p : GC → Bool) (cs : List GC) (k : Nat) : ((cs.take k).filter p).length ≤ cs.length := Nat.le_trans (List.length_filter_le _ _) (by rw [List.length_take]; exact Nat.min_le_right _ _)
structure RunRel (w : World) (os ls : List GC) (v3 v4 : Value) (wr : World) : Prop where
  out : Row wr w.heap.size 3 1 v3 os.length (os.map fun c => .int .i64 c.id)
  lft : Row wr w.heap.size 133 5 v4 ls.length (ls.flatMap GC.cells)
  dis : ∀ k, v3.ownBlock = some k → v4.ownBlock ≠ some k
  low : Below w.heap.size w wr
theorem RunRel.grow {w wr w' : World} {os ls : List GC} {v3 v4 : Value} (h : RunRel w os ls v3 v4 wr) (hb : Below wr.heap.size wr w') : RunRel w os ls v3 v4 w' :=
  ⟨h.out.grow hb, h.lft.grow hb, h.dis, h.low.trans (hb.mono h.low.size)⟩
theorem RunRel.addOut {w wr w' : World} {os ls : List GC} {v3 v4 v5 : Value} {c : GC} {X : Obj} (h : RunRel w os ls v3 v4 wr) (hr : Row w' w.heap.size 3 1 v5 (os.length + 1) ((os.map fun c => .int .i64 c.id) ++ [.int .i64 c.id])) (hg : (wr.alloc X).grownBy w' v3.ownBlock) (ho : v5.ownBlock = v3.ownBlock ∨ v5.ownBlock = some (wr.heap.size + 1)) : RunRel w (os ++ [c]) ls v5 v4 w' := by
  refine ⟨by simpa using hr, (h.lft.alloc X).grown hg (fun k hk e => h.dis k e hk), fun k hk e => ?_, (h.low.alloc h.low.size X).grown hg (by simp; have := h.low.size; omega) (fun k hk => (h.out.lt k hk).1)⟩
  rcases own_cases ho hk with h1 | rfl
  · exact h.dis k h1 e
  · have := (h.lft.lt _ e).2; omega
theorem RunRel.addLft {w wr w' : World} {os ls : List GC} {v3 v4 v5 : Value} {c : GC} {X : Obj} (h : RunRel w os ls v3 v4 wr) (hr : Row w' w.heap.size 133 5 v5 (ls.length + 1) (ls.flatMap GC.cells ++ c.cells)) (hg : (wr.alloc X).grownBy w' v4.ownBlock) (ho : v5.ownBlock = v4.ownBlock ∨ v5.ownBlock = some (wr.heap.size + 1)) : RunRel w os (ls ++ [c]) v3 v5 w' := by
  refine ⟨(h.out.alloc X).grown hg (fun k hk e => h.dis k hk e), by simpa using hr, fun k hk e => ?_, (h.low.alloc h.low.size X).grown hg (by simp; have := h.low.size; omega) (fun k hk => (h.lft.lt k hk).1)⟩
  rcases own_cases ho e with h1 | rfl
  · exact h.dis k hk h1
  · have := (h.out.lt _ hk).2; omega
theorem GrSt.setv {w : World} {B g base : Nat} {d t : Nat → Int} {v v' : Value} {cs cs' : List GC} (h : GrSt w B g d t v cs) (hr : Row w base 133 5 v' cs'.length (cs'.flatMap GC.cells)) (hb : B ≤ base) (hne : v'.ownBlock ≠ some g) : GrSt (w.setCell ⟨g, 8, none⟩ v') B g d t v' cs' :=
  ⟨by have := h.blk.set 8 v'
      rwa [gcells_setv] at this, (hr.setCell (p := ⟨g, 8, none⟩) hne _).base_le hb, h.low, hne⟩
def RunPost (w : World) (B g : Nat) (v : Value) (d t : Nat → Int) (cs : List GC) (e : Ending) (w' : World) : Prop :=
  ∃ A c, e = .returned (.slice A (ovs d t cs).length c) ∧ Row w' w.heap.size 3 1 (.slice A (ovs d t cs).length c) (ovs d t cs).length ((ovs d t cs).map fun c => .int .i64 c.id) ∧ GrGo w B g v d t (lft d t cs) w'
theorem gc_one (c : GC) : ∀ u ∈ c.cells, u.oneCell' = true := by
  intro u hu
  simp [GC.cells] at hu
  rcases hu with rfl | rfl | rfl | rfl | rfl <;> rfl
set_option maxHeartbeats 2000000 in
set_option maxRecDepth 100000 in
theorem run_any (g : Nat) (d t : Nat → Int) (v : Value) (cs : List GC) (w : World) (B : Nat) (h : GrSt w B g d t v cs) (hB : B ≤ w.heap.size) (hl : cs.length ≤ 256) :
    Calls Try.prog 60 #[.pointer (some ⟨g, 0, none⟩)] w (RunPost w B g v d t cs) := by
  obtain ⟨i0, hi, hz0, hz1, hz2⟩ := info_parts Try.infoInt
  obtain ⟨i5, hi5, hy0, hy1, hy2⟩ := info_parts Try.info133
  obtain ⟨A, c, hv, hc1, hc2⟩ := h.row.shape
  subst hv
  have c8 := h.blk.cell 8
  rw [show (gcells d t (.slice A cs.length c))[8]? = some (.slice A cs.length c) from rfl] at c8
  have hgl := h.blk.lt
  have hrel0 : RunRel w (ovs d t (cs.take 0)) (lft d t (cs.take 0)) (.slice none 0 0) (.slice none 0 0) w := ⟨Row.nil _ _ _ _, Row.nil _ _ _ _, fun k hk => by simp [Value.ownBlock] at hk, Below.refl _ _⟩
  go_enter Try.func60, Try.ntmps60
  go_wp2
  go_loopw [3, 4, 12] (fun v3 v4 i wr => ∃ k : Nat, k ≤ cs.length ∧ i = .int .i64 k ∧ RunRel w (ovs d t (cs.take k)) (lft d t (cs.take k)) v3 v4 wr) (fun _ _ i _ => cs.length - (intOf i).toNat)
  case atStart => exact ⟨0, by omega, rfl, hrel0⟩
  case round =>
    obtain ⟨k, hk, rfl, hR⟩ := hrel
    clear hrel0
    obtain ⟨A3, c3, hv3, hc3, hd3⟩ := hR.out.shape
    obtain ⟨A4, c4, hv4, hc4, hd4⟩ := hR.lft.shape
    subst hv3
    subst hv4
    have hl3 : (ovs d t (cs.take k)).length ≤ cs.length := filt_len _ cs k
    have hl4 : (lft d t (cs.take k)).length ≤ cs.length := filt_len _ cs k
    have hS := h.keep (Fr.of_grow hR.low) (fun _ _ h => h)
    by_cases hlt : k < cs.length
    · obtain ⟨b, o, hA, hb, hcell⟩ := GC.at_ (cs := cs) (i := k) (w := wr) (B := wr.heap.size) (A := A) (n := cs.length) ⟨hS.row.reads, rfl⟩ hlt
      subst hA
      have e0 := hcell 0 _ rfl
      have e1 := hcell 1 _ rfl
      have e2 := hcell 2 _ rfl
      have e3 := hcell 3 _ rfl
      have e4 := hcell 4 _ rfl
      rw [Nat.add_zero] at e0
      clear hcell
      have hTo := Lib.hid (ovs_take d t cs k hlt)
      have hTl := Lib.hid (lft_take d t cs k hlt)
      have hklt : (k : Int) < cs.length := by omega
      generalize cs.getD k .zero = y at *
      generalize ovs d t (cs.take k) = os at *
      generalize lft d t (cs.take k) = ls at *
      go_wp2_with fail
      have hS2 : GrSt (wr.alloc (.cells #[.int .i64 y.id, .int .i64 (y.w 0), .int .i64 (y.w 1), .int .i64 (y.w 2), .int .i64 (y.w 3)] 133)) B g d t (.slice (some ⟨b, o, none⟩) cs.length c) cs := hS.keep ((Fr.refl Nil wr).alloc _) (fun _ _ h => h)
      cases hov : overB d t y with
      | true =>
        have HOV := Lib.hid hov
        refine (over_any g d t _ cs y _ B hS2 hov).mono ?_
        rintro e w2 ⟨rfl, hb2⟩
        have hR2 := (hR.grow ((Below.refl wr.heap.size wr).alloc (Nat.le_refl _) (.cells #[.int .i64 y.id, .int .i64 (y.w 0), .int .i64 (y.w 1), .int .i64 (y.w 2), .int .i64 (y.w 3)] 133))).grow hb2
        have hbx := ((Blk.new wr #[.int .i64 y.id, .int .i64 (y.w 0), .int .i64 (y.w 1), .int .i64 (y.w 2), .int .i64 (y.w 3)] 133).fr (Fr.of_grow hb2) (fun h => h)).cell
        have hbl := ((Blk.new wr #[.int .i64 y.id, .int .i64 (y.w 0), .int .i64 (y.w 1), .int .i64 (y.w 2), .int .i64 (y.w 3)] 133).fr (Fr.of_grow hb2) (fun h => h)).lt
        clear hov
        go_wp2_with (at_builtin; refine wpList_append_row _ rfl (.tmp 19) (.tmp 22) 30 rfl w.heap.size 3 i0 (.int .i64 0) 1 8 Try.underlying30 hi hz0 hz1 hz2 rfl (by decide) (.slice A3 os.length c3) os.length _ rfl (hR2.out.alloc _) (w2.heap.size + 1) (some ⟨w2.heap.size, 0, none⟩) 1 1 [.int .i64 y.id] rfl (reads_one w2 _ 3) (by simp [Value.oneCell']) (by unfold maxLen; omega) (by omega) (by have := hR2.low.size; simp; omega) ?_)
        intro A1 c1 w3 hr1 hg1 ho1
        have hR3 := hR2.addOut hr1 hg1 (ho1.imp id (fun e => e.trans (by simp)))
        rw [HOV.out, if_pos rfl] at hTo hTl
        go_wp2
        go_roundw
        case rel => exact ⟨k + 1, by omega, by go_num, by rw [hTo.out, hTl.out, List.append_nil]; exact hR3⟩
        case measure => simp [intOf]; omega
      | false =>
        have HOV := Lib.hid hov
        refine (over_any g d t _ cs y _ B hS2 hov).mono ?_
        rintro e w2 ⟨rfl, hb2⟩
        have hR2 := (hR.grow ((Below.refl wr.heap.size wr).alloc (Nat.le_refl _) (.cells #[.int .i64 y.id, .int .i64 (y.w 0), .int .i64 (y.w 1), .int .i64 (y.w 2), .int .i64 (y.w 3)] 133))).grow hb2
        have hbx := ((Blk.new wr #[.int .i64 y.id, .int .i64 (y.w 0), .int .i64 (y.w 1), .int .i64 (y.w 2), .int .i64 (y.w 3)] 133).fr (Fr.of_grow hb2) (fun h => h)).cell
        have hbl := ((Blk.new wr #[.int .i64 y.id, .int .i64 (y.w 0), .int .i64 (y.w 1), .int .i64 (y.w 2), .int .i64 (y.w 3)] 133).fr (Fr.of_grow hb2) (fun h => h)).lt
        clear hov
        go_wp2_with (at_builtin; refine wpList_append_row _ rfl (.tmp 24) (.tmp 26) 128 rfl w.heap.size 133 i5 _ 5 40 Try.underlying128 hi5 hy0 hy1 hy2 rfl (by decide) (.slice A4 ls.length c4) ls.length _ rfl (hR2.lft.alloc _) (w2.heap.size + 1) (some ⟨w2.heap.size, 0, none⟩) 1 1 y.cells rfl (reads_five w2 _ _ _ _ _ 133) (gc_one y) (by unfold maxLen; omega) (by omega) (by have := hR2.low.size; simp; omega) ?_)
        intro A1 c1 w3 hr1 hg1 ho1
        have hR3 := hR2.addLft hr1 hg1 (ho1.imp id (fun e => e.trans (by simp)))
        rw [HOV.out] at hTo hTl
        simp only [Bool.false_eq_true, if_false] at hTo hTl
        go_wp2
        go_roundw
        case rel => exact ⟨k + 1, by omega, by go_num, by rw [hTo.out, hTl.out, List.append_nil]; exact hR3⟩
        case measure => simp [intOf]; omega
    · obtain rfl : k = cs.length := by omega
      have hne : (Value.slice A4 (lft d t (cs.take cs.length)).length c4).ownBlock ≠ some g := fun e => by have := (hR.lft.lt _ e).1; omega
      have hS3 := Lib.hid (hS.setv hR.lft hB hne)
      have hF := Lib.hid (((Fr.of_grow hR.low).mono (S' := GrF g (.slice A cs.length c)) (fun _ _ h => h.elim)).setCell (p := ⟨g, 8, none⟩) (fun _ => .inl rfl) (.slice A4 (lft d t (cs.take cs.length)).length c4))
      have hO := Lib.hid (hR.out.setCell (p := ⟨g, 8, none⟩) (fun e => by have := (hR.out.lt g e).1; omega) (.slice A4 (lft d t (cs.take cs.length)).length c4))
      have hL := Lib.hid (fun k e => (hR.lft.lt k e).1)
      have E1 := Lib.hid (show ovs d t (cs.take cs.length) = ovs d t cs by rw [List.take_length])
      have E2 := Lib.hid (show lft d t (cs.take cs.length) = lft d t cs by rw [List.take_length])
      have hg8 := hS.blk.free 8
      have hgl8 := hS.blk.lt
      have hc8 := hS.blk.cell 8
      rw [show (gcells d t (.slice A cs.length c))[8]? = some (.slice A cs.length c) from rfl] at hc8
      clear hR hS
      generalize ovs d t (cs.take cs.length) = os at *
      generalize lft d t (cs.take cs.length) = ls at *
      go_wp2
      go_ret
      unfold RunPost
      rw [← E1.out, ← E2.out]
      refine ⟨A3, c3, rfl, hO.out, _, hS3.out, hF.out, fun k hk => ?_⟩
      rcases hk with hk | hk
      · exact .inl (.inl hk)
      · exact .inr (hL.out k hk)
end Go.Proofs.Ytjcbnanajelpjaa
