/- One end of a stream: an object with two rows of bytes in memory; the program's cells; contracts of its small methods. -/
import Derived.Test.YthlhjaacjhlkhaaStB
import Derived.Test.YthlhjaacjhlkhaaSegC
import Derived.Test.YthlhjaacjhlkhaaOwnC
import Derived.Deep.RegionLaw
import Derived.Deep.RegionWith
import Derived.Deep.Light
namespace Go.Proofs.Ythlhjaacjhlkhaa
open Go.RowKit
set_option maxHeartbeats 400000
set_option linter.unusedVariables false
set_option linter.unusedSimpArgs false
/-- An object at g of type t with the cells cs; two rows of bytes of its own. -/
structure Ob2 (w : World) (B g : Nat) (t : TypeId) (cs : Value → Value → Array Value) (vo vi : Value) (xs ys : List Int) : Prop where
  blk : Blk w g (cs vo vi) t
  ro : Row w B 5 1 vo xs.length (xs.map (Value.int .u8))
  ri : Row w B 5 1 vi ys.length (ys.map (Value.int .u8))
  bo : Byt xs
  bi : Byt ys
  dis : ∀ k, vo.ownBlock = some k → vi.ownBlock ≠ some k
  no : vo.ownBlock ≠ some g
  ni : vi.ownBlock ≠ some g
  low : B ≤ g
def Ob2F (g : Nat) (vo vi : Value) (k : Nat) : Prop := k = g ∨ vo.ownBlock = some k ∨ vi.ownBlock = some k
def Ob2Go (w : World) (B g : Nat) (t : TypeId) (vo vi : Value) (cs : Value → Value → Array Value) (xs ys : List Int) (w' : World) : Prop :=
  ∃ vo' vi', Ob2 w' B g t cs vo' vi' xs ys ∧ Fr (Ob2F g vo vi) w w' ∧ ∀ k, Ob2F g vo' vi' k → Ob2F g vo vi k ∨ w.heap.size ≤ k
namespace Ob2
variable {w w' W : World} {B g : Nat} {t : TypeId} {cs cs' : Value → Value → Array Value} {vo vi vo' vi' : Value} {xs ys xs' ys' : List Int}
theorem keep {S : Nat → Prop} (h : Ob2 w B g t cs vo vi xs ys) (hf : Fr S w w') (hn : ∀ k, Ob2F g vo vi k → ¬ S k) : Ob2 w' B g t cs vo vi xs ys :=
  ⟨h.blk.fr hf (hn _ (.inl rfl)), h.ro.fr hf (fun k hk => hn k (.inr (.inl hk))), h.ri.fr hf (fun k hk => hn k (.inr (.inr hk))), h.bo, h.bi, h.dis, h.no, h.ni, h.low⟩
theorem grow (h : Ob2 w B g t cs vo vi xs ys) (hb : Below w.heap.size w w') : Ob2 w' B g t cs vo vi xs ys := h.keep (Fr.of_grow hb) (fun _ _ h => h)
theorem lt (h : Ob2 w B g t cs vo vi xs ys) : ∀ k, Ob2F g vo vi k → B ≤ k ∧ k < w.heap.size := fun k hk => by
  rcases hk with rfl | hk | hk
  · exact ⟨h.low, h.blk.lt⟩
  · exact h.ro.lt k hk
  · exact h.ri.lt k hk
theorem same (h : Ob2 w B g t cs vo vi xs ys) (hb : Below w.heap.size w w') : Ob2Go w B g t vo vi cs xs ys w' := ⟨vo, vi, h.grow hb, (Fr.of_grow hb).mono (fun _ _ h => h.elim), fun k hk => .inl hk⟩
/-- Only cells of the object have turned. -/
theorem sets {arr : Array Value} (h : Ob2 w B g t cs vo vi xs ys) (hf : Fr (fun k => k = g) w W) (hb : Blk W g arr t) (ha : arr = cs' vo vi) : Ob2Go w B g t vo vi cs' xs ys W :=
  ⟨vo, vi, ⟨by rw [← ha]; exact hb, h.ro.fr hf (fun k hk e => h.no (e ▸ hk)), h.ri.fr hf (fun k hk e => h.ni (e ▸ hk)), h.bo, h.bi, h.dis, h.no, h.ni, h.low⟩, hf.mono (fun k _ e => .inl e), fun k hk => .inl hk⟩
/-- The first row is another one, and cells have turned. -/
theorem setO {arr : Array Value} {w1 : World} (h : Ob2 w B g t cs vo vi xs ys) (hf : Fr (fun k => vo.ownBlock = some k) w w1) (hr : Row w1 B 5 1 vo' xs'.length (xs'.map (Value.int .u8))) (hbx : Byt xs')
    (ho : ∀ k, vo'.ownBlock = some k → vo.ownBlock = some k ∨ w.heap.size ≤ k) (hf2 : Fr (fun k => k = g) w1 W) (hb : Blk W g arr t) (ha : arr = cs' vo' vi) : Ob2Go w B g t vo vi cs' xs' ys W := by
  have hng : vo'.ownBlock ≠ some g := fun e => by
    rcases ho g e with h1 | h1
    · exact h.no h1
    · have := h.blk.lt; omega
  refine ⟨vo', vi, ⟨by rw [← ha]; exact hb, hr.fr hf2 (fun k hk e => hng (e ▸ hk)), (h.ri.fr hf (fun k hk e => h.dis k e hk)).fr hf2 (fun k hk e => h.ni (e ▸ hk)), hbx, h.bi, fun k hk hk' => ?_, hng, h.ni, h.low⟩, (hf.mono (fun k _ e => .inr (.inl e))).trans (hf2.mono (fun k _ e => .inl e)) (fun _ _ h => h), fun k hk => ?_⟩
  · rcases ho k hk with h1 | h1
    · exact h.dis k h1 hk'
    · have := (h.ri.lt k hk').2; omega
  · rcases hk with hk | hk | hk
    · exact .inl (.inl hk)
    · rcases ho k hk with h1 | h1
      · exact .inl (.inr (.inl h1))
      · exact .inr h1
    · exact .inl (.inr (.inr hk))
theorem setI {arr : Array Value} {w1 : World} (h : Ob2 w B g t cs vo vi xs ys) (hf : Fr (fun k => vi.ownBlock = some k) w w1) (hr : Row w1 B 5 1 vi' ys'.length (ys'.map (Value.int .u8))) (hbx : Byt ys')
    (ho : ∀ k, vi'.ownBlock = some k → vi.ownBlock = some k ∨ w.heap.size ≤ k) (hf2 : Fr (fun k => k = g) w1 W) (hb : Blk W g arr t) (ha : arr = cs' vo vi') : Ob2Go w B g t vo vi cs' xs ys' W := by
  have hng : vi'.ownBlock ≠ some g := fun e => by
    rcases ho g e with h1 | h1
    · exact h.ni h1
    · have := h.blk.lt; omega
  refine ⟨vo, vi', ⟨by rw [← ha]; exact hb, (h.ro.fr hf (fun k hk e => h.dis k hk e)).fr hf2 (fun k hk e => h.no (e ▸ hk)), hr.fr hf2 (fun k hk e => hng (e ▸ hk)), h.bo, hbx, fun k hk hk' => ?_, h.no, hng, h.low⟩, (hf.mono (fun k _ e => .inr (.inr e))).trans (hf2.mono (fun k _ e => .inl e)) (fun _ _ h => h), fun k hk => ?_⟩
  · rcases ho k hk' with h1 | h1
    · exact h.dis k hk h1
    · have := (h.ro.lt k hk).2; omega
  · rcases hk with hk | hk | hk
    · exact .inl (.inl hk)
    · exact .inl (.inr (.inl hk))
    · rcases ho k hk with h1 | h1
      · exact .inl (.inr (.inr h1))
      · exact .inr h1
end Ob2
theorem Ob2Go.of_grow {w w3 w' : World} {B g : Nat} {t : TypeId} {cs : Value → Value → Array Value} {vo vi : Value} {xs ys : List Int} (hb : Below w.heap.size w w3) (h : Ob2Go w3 B g t vo vi cs xs ys w') : Ob2Go w B g t vo vi cs xs ys w' := by
  obtain ⟨v1, v2, a1, a2, a3⟩ := h
  refine ⟨v1, v2, a1, ((Fr.of_grow hb).mono (fun _ _ h => h.elim)).trans a2 (fun k _ hk => hk), fun k hk => ?_⟩
  rcases a3 k hk with h3 | h3
  · exact .inl h3
  · exact .inr (Nat.le_trans hb.size h3)
theorem Ob2Go.step {w w1 w2 : World} {B g : Nat} {t : TypeId} {cs1 cs2 : Value → Value → Array Value} {vo vi : Value} {xs1 ys1 xs2 ys2 : List Int} (h1 : Ob2Go w B g t vo vi cs1 xs1 ys1 w1)
    (h2 : ∀ vo1 vi1, Ob2 w1 B g t cs1 vo1 vi1 xs1 ys1 → Ob2Go w1 B g t vo1 vi1 cs2 xs2 ys2 w2) : Ob2Go w B g t vo vi cs2 xs2 ys2 w2 := by
  obtain ⟨v1, v2, a1, a2, a3⟩ := h1
  obtain ⟨v3, v4, b1, b2, b3⟩ := h2 v1 v2 a1
  refine ⟨v3, v4, b1, a2.trans b2 (fun k hk hk' => (a3 k hk').resolve_right (by omega)), fun k hk => ?_⟩
  rcases b3 k hk with h3 | h3
  · exact a3 k h3
  · exact .inr (Nat.le_trans a2.size h3)
/-- The program's cells. -/
structure EC where
  st : Int
  una : Int
  nxt : Int
  top : Int
  first : Int
  rcv : Int
  peer : Int
  shut : Bool
  fin : Bool
  due : Bool
  wait : Int
  tries : Int
def ecells (x : EC) (vo vi : Value) : Array Value := #[.int .i64 x.st, .int .u32 x.una, .int .u32 x.nxt, .int .u32 x.top, .int .u32 x.first, .int .u32 x.rcv, vo, vi, .int .i64 x.peer, .bool x.shut, .bool x.fin, .bool x.due, .int .i64 x.wait, .int .i64 x.tries]
def ESt (w : World) (B g : Nat) (x : EC) (vo vi : Value) (xs ys : List Int) : Prop := Ob2 w B g 128 (ecells x) vo vi xs ys
def EGo (w : World) (B g : Nat) (vo vi : Value) (x : EC) (xs ys : List Int) (w' : World) : Prop := Ob2Go w B g 128 vo vi (ecells x) xs ys w'
/-- What a walk needs of the object. -/
theorem ESt.look {w : World} {B g : Nat} {x : EC} {vo vi : Value} {xs ys : List Int} (h : ESt w B g x vo vi xs ys) : ∃ A c A' c', vo = .slice A xs.length c ∧ vi = .slice A' ys.length c' ∧ xs.length ≤ c ∧ c ≤ 9223372036854775807 ∧ ys.length ≤ c' ∧ c' ≤ 9223372036854775807 := by
  obtain ⟨A, c, e1, h1, h2⟩ := Ob2.ro h |>.shape
  obtain ⟨A', c', e2, h3, h4⟩ := Ob2.ri h |>.shape
  unfold maxLen at h2 h4
  exact ⟨A, c, A', c', e1, e2, h1, h2, h3, h4⟩
def begunB (x : EC) : Bool := decide (2 ≤ x.st) && decide (x.st ≤ 4)
section
variable {w : World} {B g : Nat} {x : EC} {vo vi : Value} {xs ys : List Int}
set_option maxRecDepth 100000 in
theorem begun93 (h : ESt w B g x vo vi xs ys) : Calls Try.prog 93 #[.pointer (some ⟨g, 0, none⟩)] w fun e w' => e = .returned (.bool (begunB x)) ∧ w = w' := by
  have hc := (Ob2.blk h).cell 0
  rw [show (ecells x vo vi)[0]? = some (.int .i64 x.st) from rfl] at hc
  unfold begunB
  generalize x.st = s at *
  clear h
  cases h1 : decide (2 ≤ s) with
  | true =>
    go_enter Try.func93, Try.ntmps93
    go_wp2
    go_ret
    exact ⟨by simp, rfl⟩
  | false =>
    go_enter Try.func93, Try.ntmps93
    go_wp2
    go_ret
    exact ⟨by simp, rfl⟩
def ERet (er : Int) (w : World) (B g : Nat) (vo vi : Value) (x' : EC) (xs' ys' : List Int) (e : Ending) (w' : World) : Prop := e = .returned (.int .i64 er) ∧ EGo w B g vo vi x' xs' ys' w'
def ERetV (w : World) (B g : Nat) (vo vi : Value) (x' : EC) (xs' ys' : List Int) (e : Ending) (w' : World) : Prop := e = .returned (.tuple #[]) ∧ EGo w B g vo vi x' xs' ys' w'
def shutE (x : EC) : Int := if begunB x = false ∨ x.shut = true then 8 else 0
def shutX (x : EC) : EC := if shutE x = 0 then { x with shut := true } else x
set_option maxRecDepth 100000 in
theorem shut45 (h : ESt w B g x vo vi xs ys) : Calls Try.prog 45 #[.pointer (some ⟨g, 0, none⟩)] w (ERet (shutE x) w B g vo vi (shutX x) xs ys) := by
  have HB := Lib.hid (begun93 h)
  have HS := Lib.hid (Ob2.same h (Below.refl _ w))
  have hc := (Ob2.blk h).cell 9
  rw [show (ecells x vo vi)[9]? = some (.bool x.shut) from rfl] at hc
  have hf := (Ob2.blk h).free
  have hlt := (Ob2.blk h).lt
  cases hb : begunB x with
  | false =>
    have e1 : shutE x = 8 := by simp [shutE, hb]
    have e2 : shutX x = x := by simp [shutX, e1]
    rw [e1, e2]
    rw [hb] at HB
    clear e1 e2 hb h
    go_enter Try.func45, Try.ntmps45
    go_wp2_with fail
    refine HB.out.mono ?_
    rintro e w' ⟨rfl, rfl⟩
    go_wp2
    go_ret
    exact ⟨rfl, HS.out⟩
  | true =>
    rw [hb] at HB
    cases hs : x.shut with
    | true =>
      have e1 : shutE x = 8 := by simp [shutE, hs]
      have e2 : shutX x = x := by simp [shutX, e1]
      rw [e1, e2]
      rw [hs] at hc
      clear e1 e2 hb hs h
      go_enter Try.func45, Try.ntmps45
      go_wp2_with fail
      refine HB.out.mono ?_
      rintro e w' ⟨rfl, rfl⟩
      go_wp2
      go_ret
      exact ⟨rfl, HS.out⟩
    | false =>
      have e1 : shutE x = 0 := by simp [shutE, hs, hb]
      have e2 : shutX x = { x with shut := true } := by simp [shutX, e1]
      rw [e1, e2]
      rw [hs] at hc
      have HG := Lib.hid h
      clear e1 e2 hb hs h HS
      go_enter Try.func45, Try.ntmps45
      go_wp2_with fail
      refine HB.out.mono ?_
      rintro e w' ⟨rfl, rfl⟩
      go_wp2
      go_ret
      refine ⟨rfl, Ob2.sets HG.out ?_ (HG.out.blk.set _ _) (by simp [ecells])⟩
      exact (Fr.refl (fun k => k = g) _).setCell (p := ⟨g, 9, none⟩) (fun _ => rfl) _
def tickX (x : EC) : EC :=
  if begunB x = false ∨ x.una = x.nxt then x
  else if x.wait + 1 < 3 then { x with wait := x.wait + 1 }
  else if 6 < x.tries + 1 then { x with wait := 0, tries := x.tries + 1, st := 5 } else { x with wait := 0, tries := x.tries + 1, nxt := x.una }
set_option maxHeartbeats 1000000 in
set_option maxRecDepth 100000 in
theorem tick47 (h : ESt w B g x vo vi xs ys) (hw : 0 ≤ x.wait ∧ x.wait ≤ 100) (ht : 0 ≤ x.tries ∧ x.tries ≤ 100) : Calls Try.prog 47 #[.pointer (some ⟨g, 0, none⟩)] w (ERetV w B g vo vi (tickX x) xs ys) := by
  have HB := Lib.hid (fun w' (hb : Below w.heap.size w w') => begun93 (Ob2.grow h hb))
  have HS := Lib.hid (fun w' hb => Ob2.same (w' := w') h hb)
  have hc := (Ob2.blk h).cell
  have hlt := (Ob2.blk h).lt
  have HG := Lib.hid h
  have HGW := Lib.hid (fun w' (hb : Below w.heap.size w w') => Ob2.grow h hb)
  clear h
  obtain ⟨s, una, nxt, top, first, rcv, peer, shut, fin, due, wait, tries⟩ := x
  dsimp only [ecells] at *
  obtain ⟨X, hX⟩ : ∃ X, tickX ⟨s, una, nxt, top, first, rcv, peer, shut, fin, due, wait, tries⟩ = X := ⟨_, rfl⟩
  rw [hX]
  have HTX := Lib.hid hX
  clear hX
  cases hb : begunB ⟨s, una, nxt, top, first, rcv, peer, shut, fin, due, wait, tries⟩ with
  | false =>
    rw [hb] at HB
    have HBB := Lib.hid hb
    have HX := Lib.hid (HTX.out.symm.trans (if_pos (.inl HBB.out)))
    clear hb HTX
    go_enter Try.func47, Try.ntmps47
    go_wp2_with fail
    refine wp_region_near w.heap.size (by kernel_rfl) (by kernel_rfl) ?_
    repeat (go_big_quiet_step (first | (go_at_call 93; exact Calls.near_same (HB.out _ (Near.prop _)))))
    refine wpQuiet_nil ?_
    intro w1 hb1
    go_wp2
    exact bodyPost_ret (v := .tuple #[]) (by simp [results, Try.results47, go_sem]) rfl ⟨rfl, by rw [HX.out]; exact HS.out _ hb1⟩
  | true =>
    rw [hb] at HB
    have HBB := Lib.hid hb
    by_cases hun : una = nxt
    · have d1 : (una == nxt) = true := by simpa using hun
      have HX := Lib.hid (HTX.out.symm.trans (if_pos (.inr hun)))
      clear hb HTX hun
      go_enter Try.func47, Try.ntmps47
      go_wp2_with fail
      refine wp_region_near w.heap.size (by kernel_rfl) (by kernel_rfl) ?_
      repeat (go_big_quiet_step (first | (go_at_call 93; exact Calls.near_same (HB.out _ (Near.prop _)))))
      refine wpQuiet_nil ?_
      intro w1 hb1
      go_wp2
      exact bodyPost_ret (v := .tuple #[]) (by simp [results, Try.results47, go_sem]) rfl ⟨rfl, by rw [HX.out]; exact HS.out _ hb1⟩
    · have d1 : (una == nxt) = false := by simpa using hun
      have HX1 := Lib.hid (show ¬ (begunB ⟨s, una, nxt, top, first, rcv, peer, shut, fin, due, wait, tries⟩ = false ∨ una = nxt) by rw [hb]; simp [hun])
      clear hb
      go_enter Try.func47, Try.ntmps47
      go_wp2_with fail
      refine wp_region_near w.heap.size (by kernel_rfl) (by kernel_rfl) ?_
      repeat (go_big_quiet_step (first | (go_at_call 93; exact Calls.near_same (HB.out _ (Near.prop _)))))
      refine wpQuiet_nil ?_
      intro w1 hb1
      have h1 := HGW.out w1 hb1
      have H1 := Lib.hid h1
      have HB1 := Lib.hid hb1
      have hc1 := h1.blk.cell
      have hf1 := h1.blk.free
      have hl1 := h1.blk.lt
      clear hc hlt h1 hb1 HB HS HGW hun
      dsimp only [ecells] at hc1
      by_cases hw3 : wait + 1 < 3
      · have HX := Lib.hid (HTX.out.symm.trans ((if_neg HX1.out).trans (if_pos hw3)))
        have d2 : decide (wait + 1 < 3) = true := by simpa using hw3
        clear hw3
        go_wp2
        refine bodyPost_ret (v := .tuple #[]) (by simp [results, Try.results47, go_sem]) rfl ⟨rfl, ?_⟩
        rw [HX.out]
        refine Ob2Go.of_grow HB1.out (Ob2.sets H1.out ?_ (H1.out.blk.set _ _) (by simp [ecells]))
        exact (Fr.refl (fun k => k = g) _).setCell (p := ⟨g, 12, none⟩) (fun _ => rfl) _
      · have HX2 := Lib.hid hw3
        have d2 : decide (wait + 1 < 3) = false := by simpa using hw3
        clear hw3
        by_cases ht6 : 6 < tries + 1
        · have HX := Lib.hid (HTX.out.symm.trans ((if_neg HX1.out).trans ((if_neg HX2.out).trans (if_pos ht6))))
          have d3 : decide (6 < tries + 1) = true := by simpa using ht6
          clear ht6
          go_wp2
          refine bodyPost_ret (v := .tuple #[]) (by simp [results, Try.results47, go_sem]) rfl ⟨rfl, ?_⟩
          rw [HX.out]
          refine Ob2Go.of_grow HB1.out (Ob2.sets H1.out ?_ ((((H1.out.blk.set _ _).set _ _).set _ _).set _ _) (by simp [ecells]))
          exact ((((Fr.refl (fun k => k = g) _).setCell (p := ⟨g, 12, none⟩) (fun _ => rfl) _).setCell (p := ⟨g, 12, none⟩) (fun _ => rfl) _).setCell (p := ⟨g, 13, none⟩) (fun _ => rfl) _).setCell (p := ⟨g, 0, none⟩) (fun _ => rfl) _
        · have HX := Lib.hid (HTX.out.symm.trans ((if_neg HX1.out).trans ((if_neg HX2.out).trans (if_neg ht6))))
          have d3 : decide (6 < tries + 1) = false := by simpa using ht6
          clear ht6
          go_wp2
          refine bodyPost_ret (v := .tuple #[]) (by simp [results, Try.results47, go_sem]) rfl ⟨rfl, ?_⟩
          rw [HX.out]
          refine Ob2Go.of_grow HB1.out (Ob2.sets H1.out ?_ ((((H1.out.blk.set _ _).set _ _).set _ _).set _ _) (by simp [ecells]))
          exact ((((Fr.refl (fun k => k = g) _).setCell (p := ⟨g, 12, none⟩) (fun _ => rfl) _).setCell (p := ⟨g, 12, none⟩) (fun _ => rfl) _).setCell (p := ⟨g, 13, none⟩) (fun _ => rfl) _).setCell (p := ⟨g, 2, none⟩) (fun _ => rfl) _
end
end Go.Proofs.Ythlhjaacjhlkhaa
