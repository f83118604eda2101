/- (*words.reader).single (printed by mkWdK.py). -/
import Derived.Test.YtdhepkljidpigaaWdJ
import Derived.Test.YtdhepkljidpigaaTail
namespace Go.Proofs.Ytdhepkljidpigaa
open Go.RowKit
set_option maxHeartbeats 400000
set_option linter.unusedVariables false
set_option linter.unusedSimpArgs false
/-- What an inner reader leaves: on at k', or something wrong at b. -/
def ROut (B g : Nat) (s : ByteArray) (w : World) (r : Nat ⊕ (Nat × List Pt)) (e : Ending) (w' : World) : Prop :=
  e = .returned (.tuple #[]) ∧ FrG B g w w' ∧ match r with
  | .inl b => ∃ k ps, RdAt w' B g s k b ps
  | .inr (k, ps) => RdAt w' B g s k (-1) ps
def sgl (s : ByteArray) (k : Nat) (ps : List Pt) : Nat ⊕ (Nat × List Pt) := if qi s k < 0 then .inl k else .inr (k + 2 + (qi s k).toNat, addP ps (s.extract (k + 1) (k + 1 + (qi s k).toNat)) true)
set_option maxHeartbeats 2000000 in
set_option maxRecDepth 100000 in
theorem single_any (B g : Nat) (s : ByteArray) (k : Nat) (A : Option Addr) (n c : Nat) (ps : List Pt) (w : World) (h : RdSt w B g s k (-1) A n c ps) (hk : k < s.size) (hs : s.size ≤ 200) (hf : Few 900 ps) :
    Calls Try.prog 19 #[.pointer (some ⟨g, 0, none⟩)] w (ROut B g s w (sgl s k ps)) := by
  have HI := Lib.hid (fun W => indexByte_any (s.extract (k + 1) s.size) 39 W)
  have hq0 : Hid (Lib.indexByte (s.extract (k + 1) s.size).data.toList (39 : Int).toNat.toUInt8 = qi s k) := Lib.hid rfl
  rw [hq0.out] at HI
  have HQ := qi_spec s k
  have HS : Hid (sgl s k ps = if qi s k < 0 then .inl k else .inr (k + 2 + (qi s k).toNat, addP ps (s.extract (k + 1) (k + 1 + (qi s k).toNat)) true)) := Lib.hid rfl
  generalize qi s k = Q at *
  clear hq0
  obtain ⟨c0, lg, fz⟩ := (show VMid w B g s k (-1) A n c ps w from ⟨h, FrG.refl B g w⟩).name
  have HM : Hid (VMid w B g s k (-1) A n c ps w) := Lib.hid ⟨h, FrG.refl B g w⟩
  clear h
  have hk1 : (k : Int) + 1 ≤ s.size := by omega
  have hk0 : (0 : Int) ≤ (k : Int) + 1 := by omega
  go_enter Try.func19, Try.ntmps19
  go_wp2_with fail
  refine wp_region_quiet_lit (by kernel_rfl) (by kernel_rfl) ?_
  repeat (go_big_quiet_step (first | (go_at_call 28; exact Calls.quiet_of_same (HI.out _))))
  refine wpQuiet_nil ?_
  rintro w1 ⟨kn, rfl⟩
  have HM1 := Lib.hid (HM.out.drewN kn)
  rcases HQ with rfl | ⟨i, rfl, hi⟩
  · have e : Hid (sgl s k ps = .inl k) := Lib.hid (by rw [HS.out]; rfl)
    go_wp2
    refine bodyPost_ret (v := .tuple #[]) (by simp [results, Try.results19, go_sem]) rfl ?_
    rw [e.out]
    exact ⟨rfl, (HM1.out.setBad k).2, _, _, ⟨_, _, _, (HM1.out.setBad k).1⟩⟩
  · have e : Hid (sgl s k ps = .inr (k + 2 + i, addP ps (s.extract (k + 1) (k + 1 + i)) true)) := Lib.hid (by rw [HS.out, if_neg (by omega)]; rfl)
    have hi0 : decide ((i : Int) < 0) = false := by simp
    have hk2 : (k : Int) + 1 ≤ (k : Int) + 1 + i := by omega
    have hk3 : (k : Int) + 1 + i ≤ s.size := by omega
    have hadd := Lib.hid (fun W (h : RdSt W B g s k (-1) A n c ps) => add_any B g s k (-1) A n c ps (s.extract (k + 1) (k + 1 + i)) true W h (hf.more (by omega)) (by simp; omega))
    go_wp2_with fail
    clear c0 lg fz
    refine wp_region_tail 18 (VMid w B g s k (-1) A n c ps) (by kernel_rfl) (by kernel_rfl) HM1.out.drew ?_
    intro w2 hm2
    obtain ⟨c0, lg, fz⟩ := hm2.name
    simp only [List.take_succ_cons, List.take_zero, List.drop_succ_cons, List.drop_zero]
    have hw1 : IntKind.i64.wrap ((k : Int) + 1) = (k : Int) + 1 := IntWalk.i64_in _ (by omega)
    have hw2 : IntKind.i64.wrap ((k : Int) + 1 + i) = (k : Int) + 1 + i := IntWalk.i64_in _ (by omega)
    repeat still_step
    refine wpStill_nil ?_
    go_wp2_with fail
    refine (hadd.out w2 hm2.1).mono ?_
    rintro e w3 ⟨rfl, ⟨A3, n3, c3, hr3⟩, hf3⟩
    have hm3 : VMid w B g s k (-1) A3 n3 c3 (addP ps (s.extract (k + 1) (k + 1 + i)) true) w3 := ⟨hr3, hm2.2.trans hf3⟩
    clear c0 lg fz hr3 hf3
    obtain ⟨c0, lg, fz⟩ := hm3.name
    go_wp2
    refine bodyPost_ret (v := .tuple #[]) (by simp [results, Try.results19, go_sem]) rfl ?_
    rw [e.out]
    have hx := hm3.setAt (k + 2 + i)
    rw [show ((k + 2 + i : Nat) : Int) = (k : Int) + ((i : Int) + 2) by omega] at hx
    exact ⟨rfl, hx.2, _, _, _, hx.1⟩
end Go.Proofs.Ytdhepkljidpigaa
