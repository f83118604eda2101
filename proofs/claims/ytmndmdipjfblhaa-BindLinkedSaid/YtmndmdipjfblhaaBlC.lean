/- Parts with their words and bytes; contract of bind.words. -/
import Derived.Test.YtmndmdipjfblhaaBlB
import Derived.Deep.RegionLaw
import Derived.OwnWalk
namespace Go.Proofs.Ytmndmdipjfblhaa
open Go.RowKit
set_option maxHeartbeats 400000
set_option linter.unusedVariables false
set_option linter.unusedSimpArgs false
/-- All of a part, read. -/
structure Fo.Full (f : Fo) (w : World) (B : Nat) : Prop where
  fine : f.o.Fine w B
  rw : RW w B f.o.A0 f.o.n0 f.ws
  wr : ∀ x ∈ f.ws, 0 ≤ x ∧ x < 4294967296
  rb : RB w B f.o.A1 f.o.n1 f.bs
theorem Fo.Full.below' {f : Fo} {w w' : World} {B B' : Nat} (h : f.Full w B) (hb : Below B' w w') (hB : B ≤ B') : f.Full w' B := ⟨h.fine.below' hb hB, h.rw.below' hb hB, h.wr, h.rb.below' hb hB⟩
/-- A slice of parts, with all that they hold. -/
def RF (w : World) (B : Nat) (A : Option Addr) (n : Nat) (fs : List Fo) : Prop := RS Fo.cells 4 w B A n fs ∧ ∀ f ∈ fs, f.Full w B
theorem RF.below' {w w' : World} {B B' n : Nat} {A : Option Addr} {fs : List Fo} (h : RF w B A n fs) (hb : Below B' w w') (hB : B ≤ B') : RF w' B A n fs := ⟨h.1.below' hb hB, fun f hf => (h.2 f hf).below' hb hB⟩
theorem RF.len {w : World} {B n : Nat} {A : Option Addr} {fs : List Fo} (h : RF w B A n fs) : fs.length = n := h.1.2
theorem RF.ro {w : World} {B n : Nat} {A : Option Addr} {fs : List Fo} (h : RF w B A n fs) : RO w B A n (fs.map Fo.o) := by
  refine ⟨⟨?_, by rw [List.length_map]; exact h.1.2⟩, fun o ho => ?_⟩
  · have := h.1.1
    rw [List.flatMap_map]
    exact this
  · obtain ⟨f, hf, rfl⟩ := List.mem_map.1 ho
    exact (h.2 f hf).fine
theorem RF.at_ {w : World} {B n i : Nat} {A : Option Addr} {fs : List Fo} (h : RF w B A n fs) (hi : i < n) :
    ∃ b o f, A = some ⟨b, o, none⟩ ∧ b < B ∧ fs[i]? = some f ∧ fs.getD i .zero = f ∧ f.Full w B ∧ w.cell? ⟨b, o + i * 4, none⟩ = some (.slice f.o.A0 f.o.n0 f.o.c0) ∧ w.cell? ⟨b, o + i * 4 + 1, none⟩ = some (.slice f.o.A1 f.o.n1 f.o.c1) ∧ w.cell? ⟨b, o + i * 4 + 2, none⟩ = some (.slice f.o.A2 f.o.n2 f.o.c2) ∧ w.cell? ⟨b, o + i * 4 + 3, none⟩ = some (.slice f.o.A3 f.o.n3 f.o.c3) := by
  obtain ⟨b, o, e, hb, hm, hc⟩ := RS.at_ (cl := Fo.cells) (s := 4) (fun _ => rfl) Fo.zero h.1 hi
  have hl : i < fs.length := by rw [h.len]; exact hi
  refine ⟨b, o, _, e, hb, ?_, rfl, h.2 _ hm, hc 0 _ rfl, hc 1 _ rfl, hc 2 _ rfl, hc 3 _ rfl⟩
  simp [List.getD, List.getElem?_eq_getElem hl]
theorem infoU32 : (Try.prog.info? 38).map (fun i => (i.zero, i.size, i.bytes)) = some (some (.int .u32 0), 1, 4) := by kernel_rfl
theorem one_u32 (xs : List Int) : ∀ u ∈ xs.map (Value.int .u32), u.oneCell' = true := by
  intro u hu
  obtain ⟨x, _, rfl⟩ := List.mem_map.1 hu
  rfl
def thereB (ad : List UInt8 → Option Int) (ds : List Nd) : Bool := ds.all fun d => (ad d.key).isSome
theorem there_bad {ad : List UInt8 → Option Int} {ds : List Nd} {j : Nat} {d : Nd} (h : ds[j]? = some d) (hn : ad d.key = none) : thereB ad ds = false := by
  unfold thereB
  rw [Bool.eq_false_iff]
  intro hc
  rw [List.all_eq_true] at hc
  have := hc d (List.mem_of_getElem? h)
  rw [hn] at this
  cases this
theorem there_step {ad : List UInt8 → Option Int} {ds : List Nd} {j : Nat} {d : Nd} (h : ds[j]? = some d) (hd : (ad d.key).isSome = true) (hj : thereB ad (ds.take j) = true) : thereB ad (ds.take (j + 1)) = true := by
  obtain ⟨hk, rfl⟩ := List.getElem?_eq_some_iff.1 h
  rw [List.take_succ_eq_append_getElem hk]
  unfold thereB at hj ⊢
  rw [List.all_append, hj]; simp [hd]
def WdPost (w : World) (n0 : Nat) (ok : Bool) (L : List Int) (e : Ending) (w' : World) : Prop :=
  ∃ v, e = .returned (.tuple #[v, .int .i64 (if ok = true then 0 else 4)]) ∧ Row w' w.heap.size 38 1 v (if ok = true then n0 else 0) (if ok = true then L.map (Value.int .u32) else []) ∧ Below w.heap.size w w'
theorem WdPost.bad {w w' : World} {n0 : Nat} {ok : Bool} {L : List Int} (h : ok = false) (hb : Below w.heap.size w w') : WdPost w n0 ok L (.returned (.tuple #[.slice none 0 0, .int .i64 4])) w' := by
  subst h; exact ⟨_, rfl, Row.nil _ _ _ _, hb⟩
theorem WdPost.good {w w' : World} {n0 : Nat} {ok : Bool} {L : List Int} {v : Value} (h : ok = true) (hr : Row w' w.heap.size 38 1 v n0 (L.map (Value.int .u32))) (hb : Below w.heap.size w w') : WdPost w n0 ok L (.returned (.tuple #[v, .int .i64 0])) w' := by
  subst h; exact ⟨_, rfl, hr, hb⟩
theorem row_u32_at {w : World} {base n c k : Nat} {A : Option Addr} {L : List Int} (h : Row w base 38 1 (.slice A n c) n (L.map (Value.int .u32))) (hk : k < n) :
    ∃ g o, A = some ⟨g, o, none⟩ ∧ g < w.heap.size ∧ base ≤ g ∧ w.frozen? ⟨g, o + k, none⟩ = false ∧ w.cell? ⟨g, o + k, none⟩ = some (.int .u32 (L.getD k 0)) := by
  obtain ⟨g, o, e, h1, h2, h3, h4⟩ := bp_row_lt h hk
  have hl : k < L.length := by have := h.1; simp at this; omega
  exact ⟨g, o, e, h1, h2, h3 _, h4 k _ (by simp [List.getElem?_eq_getElem hl, List.getD])⟩
set_option maxHeartbeats 2000000 in
set_option maxRecDepth 100000 in
theorem words_any (f : Fo) (beg g m : Nat) (ad : List UInt8 → Option Int) (w : World) (hbeg : beg ≤ 7000) (had : ∀ k a, ad k = some a → 0 ≤ a ∧ a ≤ 20000) (h : f.Full w w.heap.size) (hn0 : f.o.n0 ≤ 128) (hf : NdsFit f.o.n0 f.o.ds) (hm : TextInt Try.prog w 9 3 g m ad) :
    Calls Try.prog 19 #[.agg f.o.vals, .int .i64 beg, .map (some g)] w (WdPost w f.o.n0 (thereB ad f.o.ds) (wvs ad beg f.o.ds f.ws)) := by
  obtain ⟨i0, hi, hz0, hz1, hz2⟩ := info_parts infoU32
  obtain ⟨⟨A0, n0, c0, A1, n1, c1, A2, n2, c2, A3, n3, c3, ns, ds⟩, ws, bs⟩ := f
  obtain ⟨hfine, hrw, hwr, _⟩ := h
  dsimp only at hfine hrw hwr hn0 hf ⊢
  have hds := hfine.rd.ds
  have hm3 := hfine.rd.m3
  dsimp only at hds hm3
  have HDL := Lib.hid hds.len
  have HWL := Lib.hid hrw.len
  have HDS := Lib.hid hds
  have hgl := hm.lt
  unfold Ob.vals
  dsimp only
  clear hfine hds
  go_enter Try.func19, Try.ntmps19
  go_wp2_with (at_builtin; refine wpList_append_row _ rfl _ (.tmp 16) 47 rfl w.heap.size 38 i0 (.int .u32 0) 1 4 Try.underlying47 hi hz0 hz1 hz2 rfl (by decide) (.slice none 0 0) 0 [] rfl (Row.nil _ _ _ _) w.heap.size A0 n0 c0 (ws.map (Value.int .u32)) rfl ?c2 (one_u32 ws) ?c3 ?c4 ?c5 ?_)
  case c2 => exact Reads.alloc hrw (Nat.le_refl _) _
  case c3 => unfold maxLen; omega
  case c4 => omega
  intro A' c' w1 hr1 hg1 _
  have hb1 : Below w.heap.size w w1 := ((Below.refl _ _).alloc (Nat.le_refl _) _).grown hg1 (by simp) (fun k hk => by simp [Value.ownBlock] at hk)
  have hx1 : Blk w1 w.heap.size #[.slice A0 n0 c0, .slice A1 n1 c1, .slice A2 n2 c2, .slice A3 n3 c3] 51 := (Blk.new w _ _).grown hg1 (by simp [Value.ownBlock])
  have hcx := hx1.cell
  have hlx := hx1.lt
  rw [← wvs_nil ad beg ws, show ([] : List Nd) = ds.take 0 from rfl] at hr1
  clear hg1
  go_wp2
  go_loopw [21] (fun i wr => ∃ j : Nat, j ≤ n3 ∧ i = .int .i64 j ∧ Row wr w.heap.size 38 1 (.slice A' n0 c') n0 ((wvs ad beg (ds.take j) ws).map (Value.int .u32)) ∧ Below w.heap.size w wr ∧ Blk wr w.heap.size #[.slice A0 n0 c0, .slice A1 n1 c1, .slice A2 n2 c2, .slice A3 n3 c3] 51 ∧ Hid (thereB ad (ds.take j) = true)) (fun i _ => n3 - (intOf i).toNat)
  case atStart => exact ⟨0, by omega, rfl, hr1, hb1, hx1, Lib.hid rfl⟩
  case round =>
    clear hr1 hb1 hx1 hcx hlx
    obtain ⟨j, hj, rfl, hr, hbw, hx, hth⟩ := hrel
    have hcx := hx.cell
    have hlx := hx.lt
    by_cases hlt : j < n3
    rotate_left
    · obtain rfl : j = n3 := by omega
      have e : Hid (ds.take j = ds) := Lib.hid (by rw [← HDL.out, List.take_length])
      rw [e.out] at hr hth
      go_wp2
      go_ret2
      exact WdPost.good hth.out hr hbw
    · obtain ⟨b, o, rfl, hb, hfn, y0, y1, y2⟩ := (HDS.out.below' hbw (Nat.le_refl _)).at_ hlt
      have hdj : Hid (ds[j]? = some (ds.getD j .zero)) := Lib.hid (by simp [List.getD, List.getElem?_eq_getElem (by rw [HDL.out]; exact hlt : j < ds.length)])
      have hfd := hf.fit _ (List.mem_of_getElem? hdj.out)
      generalize ds.getD j .zero = d at *
      obtain ⟨a, s, k⟩ := d
      obtain ⟨hs, _, _⟩ := hfn
      obtain ⟨hk1, hk2, ha0, ha1, ham⟩ := hfd
      dsimp only at y0 y1 y2 hs hk1 hk2 ha0 ha1 ham
      have hmw := hm.fr (Fr.of_below hbw) (fun h => by omega)
      have hbx : Blk (wr.alloc (.cells #[.int .i64 a, .string s, .int .i64 k] 65)) wr.heap.size #[.int .i64 a, .string s, .int .i64 k] 65 := Blk.new _ _ _
      have hmw2 := hmw.alloc (.cells #[.int .i64 a, .string s, .int .i64 k] 65)
      have hlk := hmw2.run_lookup_ok (t := 53) Try.underlying9 Try.underlying3 Try.underlying53 (zero3 _) (s := s) (by unfold maxLen; omega)
      have hr2 := hr.alloc (.cells #[.int .i64 a, .string s, .int .i64 k] 65)
      have hbw2 := hbw.alloc hbw.size (.cells #[.int .i64 a, .string s, .int .i64 k] 65)
      have hx2 := hx.alloc (.cells #[.int .i64 a, .string s, .int .i64 k] 65)
      cases hq : ad s.data.toList with
      | none =>
        have hbad := Lib.hid (there_bad hdj.out hq)
        rw [hq] at hlk
        clear hq
        go_wp2
        go_ret2
        exact WdPost.bad hbad.out hbw2
      | some to =>
        obtain ⟨ht0, ht1⟩ := had _ _ hq
        obtain ⟨q, rfl⟩ : ∃ q : Nat, a = 4 * (q : Int) := ⟨(a / 4).toNat, by omega⟩
        have hqn : q < n0 := by omega
        have hws : Hid (q < ws.length) := Lib.hid (by rw [HWL.out]; exact hqn)
        have hstep := wvs_step (ad := ad) (beg := beg) (ws := ws) hf hdj.out rfl hws.out
        have hold := wv_old (ad := ad) (beg := beg) (ws := ws) hf hdj.out rfl
        rw [show (ad (⟨4 * (q : Int), s, k⟩ : Nd).key) = some to from hq] at hstep
        dsimp only [Option.getD_some] at hstep
        have hth2 := Lib.hid (there_step hdj.out (show (ad (⟨4 * (q : Int), s, k⟩ : Nd).key).isSome = true by rw [show ad (⟨4 * (q : Int), s, k⟩ : Nd).key = some to from hq]; rfl) hth.out)
        obtain ⟨g1, o1, rfl, hg1, hg2, hfz, hcell⟩ := row_u32_at hr2 hqn
        rw [wvs_getD hws.out, hold] at hcell
        have hwq := hwr (ws.getD q 0) (by simp [List.getD, List.getElem?_eq_getElem hws.out])
        have HPL := Lib.hid (fun W => place_any (ws.getD q 0) k (beg + 4 * (q : Int)) to W hwq.1 hwq.2 hk1 hk2 (by omega) (by omega) ht0 ht1)
        unfold PlaceP at HPL
        have hdiv : (4 * (q : Int)).tdiv 4 = q := by rw [Int.tdiv_eq_ediv_of_nonneg (by omega)]; omega
        have hstp := hr2.stored (j := q) (by omega) (.int .u32 (plW (ws.getD q 0) k (beg + 4 * (q : Int)) to))
        rw [List.map_set.symm, hstep] at hstp
        have hne := bp_row_blk hr2 hx2 (by decide)
        have HX := Lib.hid (hx2.set_other (p := ⟨g1, o1 + q, none⟩) (fun e => hne (by show some g1 = _; rw [← e])) (.int .u32 (plW (ws.getD q 0) k (beg + 4 * (q : Int)) to)))
        clear hne
        have HSTP := Lib.hid hstp
        have HBW := Lib.hid (hbw2.setCell (p := ⟨g1, o1 + q, none⟩) hg2 (.int .u32 (plW (ws.getD q 0) k (beg + 4 * (q : Int)) to)))
        rw [hq] at hlk
        clear hq hstep hold hstp hr hr2 hbw hx hmw hmw2
        have hcx2 := hx2.cell
        generalize plW (ws.getD q 0) k (beg + 4 * (q : Int)) to = pw at *
        generalize ws.getD q 0 = wq at *
        go_wp2_with fail
        refine wp_region_quiet_lit (by kernel_rfl) (by kernel_rfl) ?_
        repeat (go_big_quiet_step ((go_at_call 23; exact Calls.quiet_of_same (HPL.out _))))
        refine wpQuiet_nil ?_
        rintro _ ⟨nq, rfl⟩
        go_wp2
        go_roundw
        case rel => exact ⟨j + 1, by omega, by go_num, HSTP.out, below_drewN HBW.out _, HX.out.drewN _, hth2⟩
        case measure => simp [intOf]; omega
end Go.Proofs.Ytmndmdipjfblhaa
