/- Locks that are slept for: contract of the reference's On (whom a lock's holder waits for, and so on). -/
import Derived.Test.YtenhcpobncmedaaSeE
namespace Go.Proofs.Ytenhcpobncmedaa
open Go.RowKit Go.Maps
set_option maxHeartbeats 400000
set_option linter.unusedVariables false
set_option linter.unusedSimpArgs false
theorem zero4 (w : World) : (zeroValue 4).run Try.prog w = .ok (.bool false) w := by kernel_rfl
/-- Where the chain stands: nowhere, or at a lock. -/
def OnAt (s : LkS) (L : List Int) (t : Int) (b : Bool) (n : Nat) (f : Int → Bool) (z : Int) : Prop :=
  (z = -1 ∧ b = false) ∨ ∃ k : Nat, k < 16 ∧ z = k ∧ s.O k ≠ 0 ∧ (b = true ↔ Reach s (s.O k) t) ∧ n ≤ L.idxOf (s.O k) ∧ ∀ j : Int, f j = true → ∃ i : Nat, i < 16 ∧ j = i ∧ L.idxOf (s.O i) < L.idxOf (s.O k)
def onM (s : LkS) (L : List Int) (z : Int) : Nat := if z < 0 then 0 else 17 - L.idxOf (s.O z.toNat)
theorem onM_neg {s : LkS} {L : List Int} {z : Int} (h : z < 0) : onM s L z = 0 := if_pos h
theorem onM_at {s : LkS} {L : List Int} (k : Nat) : onM s L (k : Int) = 17 - L.idxOf (s.O k) := by
  unfold onM; rw [if_neg (by omega), Int.toNat_natCast]
theorem onM_lt {s : LkS} {L : List Int} {t : Int} {b : Bool} {n : Nat} {f : Int → Bool} {z : Int} {k : Nat} (h : OnAt s L t b n f z) (hz : z < 0 ∨ ∃ j : Nat, z = j ∧ L.idxOf (s.O k) < L.idxOf (s.O j)) (hk : L.idxOf (s.O k) < 16) : onM s L z < onM s L (k : Int) := by
  rw [onM_at]
  rcases hz with hz | ⟨j, rfl, hj⟩
  · rw [onM_neg hz]; omega
  · rw [onM_at]; omega
theorem on_next {s : LkS} {L : List Int} (hs : LkOk s) (hL : Ord s L) {t : Int} {b : Bool} {n : Nat} {f : Int → Bool} {k : Nat} (hk : k < 16) (h : OnAt s L t b n f k) (hne : s.O k ≠ t) :
    OnAt s L t b (n + 1) (fun z => if z = (k : Int) then true else f z) (forI s.F (s.O k)) ∧ (forI s.F (s.O k) < 0 ∨ ∃ j : Nat, forI s.F (s.O k) = j ∧ L.idxOf (s.O k) < L.idxOf (s.O j)) := by
  rcases h with ⟨h, _⟩ | ⟨k', hk', e, ho, hb, hn, hf⟩
  · omega
  have e' : k' = k := by omega
  subst e'
  cases hw : wfor s.F (s.O k') with
  | none =>
    rw [forI_no hw]
    refine ⟨.inl ⟨rfl, ?_⟩, .inl (by omega)⟩
    cases b with
    | false => rfl
    | true => exact absurd ((Reach.none hw).1 (hb.1 rfl)) hne
  | some j =>
    rw [forI_some hw]
    obtain ⟨hj, hx⟩ := wfor_some hw
    have hup := hL.up hj hx
    refine ⟨.inr ⟨j, hj, rfl, (hs.mem j hj _ hx).2, ?_, by omega, fun z hz => ?_⟩, .inr ⟨j, rfl, hup⟩⟩
    · rw [hb, Reach.some hs hw]
      exact ⟨fun h => h.resolve_left hne, .inr⟩
    · dsimp only at hz
      by_cases e : z = (k' : Int)
      · exact ⟨k', hk', e, hup⟩
      · rw [if_neg e] at hz
        obtain ⟨i, hi, e1, h1⟩ := hf z hz
        exact ⟨i, hi, e1, by omega⟩
section
variable {w : World} {g bp np bf nf : Nat} {s : LkS}
set_option maxHeartbeats 1000000 in
set_option maxRecDepth 100000 in
theorem on56 (hs : LkOk s) (h : LkR w g bp np s) (k0 : Nat) (t : Int) (hk0 : k0 < 16) (ho0 : s.O k0 ≠ 0) (b : Bool) (hb : b = true ↔ Reach s (s.O k0) t) :
    Calls Try.prog 56 #[.pointer (some ⟨g, 0, none⟩), .int .i64 k0, .int .i64 t] w fun e w' => e = .returned (.bool b) ∧ Below w.heap.size w w' := by
  have hmm := @run_makeMap Try.prog
  obtain ⟨L, hL⟩ := hs.ord
  have HR := Lib.hid h
  have HL := Lib.hid (fun k (hk : k < 16) (ho : s.O k ≠ 0) => hL.lt (hs.task (hs.own k hk ho)).1 (hs.task (hs.own k hk ho)).2)
  have HN := Lib.hid (fun n f k hk h1 h2 => on_next hs hL (t := t) (b := b) (n := n) (f := f) (k := k) hk h1 h2)
  have HM := Lib.hid (fun n f z k h1 h2 h3 => onM_lt (s := s) (L := L) (t := t) (b := b) (n := n) (f := f) (z := z) (k := k) h1 h2 h3)
  have HS : Hid (OnAt s L t b 0 (fun _ => false) k0) := Lib.hid (.inr ⟨k0, hk0, rfl, ho0, hb, by omega, fun j hj => by cases hj⟩)
  clear h hb hk0 ho0
  go_enter Try.func56, Try.ntmps56
  go_wp2_with fail
  go_loopw [1] (fun i wr => ∃ (z : Int) (n : Nat) (f : Int → Bool), i = .int .i64 z ∧ Hid (OnAt s L t b n f z) ∧ Hid (IntBool Try.prog wr 3 4 w.heap.size n f) ∧ Below w.heap.size w wr) (fun i _ => onM s L (intOf i))
  case atStart => exact ⟨k0, 0, fun _ => false, rfl, HS, Lib.hid (IntBool.made _ _ _ _), (Below.refl _ _).alloc (Nat.le_refl _) _⟩
  case round =>
    obtain ⟨z, n, f, rfl, hA, hI, hbw⟩ := hrel
    clear HS
    have HBW := Lib.hid hbw
    rcases hA.out with ⟨rfl, rfl⟩ | ⟨k, hk, rfl, ho, hb, hn, hf⟩
    · clear hbw
      go_wp2
      go_ret
      exact ⟨rfl, HBW.out⟩
    · have d1 : decide (0 ≤ (k : Int)) = true := by simp
      have hkw : (Lit.int .i64 (k : Int)).wf = true := by simp [Lit.wf, IntKind.min, IntKind.max, IntKind.signed, IntKind.bits]; omega
      have hfk : f k = false := by
        cases e : f k with
        | false => rfl
        | true =>
          obtain ⟨i, hi, e1, h1⟩ := hf k e
          have e2 : i = k := by omega
          subst e2; omega
      have hlk := hI.out.run_lookup Try.underlying3 Try.underlying4 Try.underlying160 (zero4 wr) hkw
      rw [hfk] at hlk
      have hidx := HL.out k hk ho
      obtain ⟨w2, hup, hI2, hg2⟩ := hI.out.update Try.underlying3 Try.underlying4 Try.underlying160 (by unfold maxLen; omega) hkw true
      have HI2 := Lib.hid hI2
      have hb2 : Below w.heap.size w w2 := HBW.out.grown hg2 HBW.out.size (fun j hj => by cases hj; exact Nat.le_refl _)
      have HB2 := Lib.hid hb2
      have hR2 := HR.out.grow hb2
      have hok := hR2.ho k hk
      have hk16 : (k : Int) < 16 := by omega
      have hk00 : (0 : Int) ≤ k := by omega
      have HF := Lib.hid (for55 hR2 (s.O k))
      have d2 : (s.O k == 0) = false := by simpa using ho
      have HN' := Lib.hid (HN.out n f k hk hA.out)
      have HM' := Lib.hid (fun z h1 h2 => HM.out (n + 1) (fun z => if z = (k : Int) then true else f z) z k h1 h2 hidx)
      have HY : Hid (s.O k = t → b = true) := Lib.hid (fun e => hb.2 (e ▸ Reach.refl _))
      have HIX := Lib.hid hidx
      clear hb hn hf hbw hfk hI2 hg2 hb2 hR2 hidx hA ho
      generalize s.O k = o at *
      generalize forI s.F o = z' at *
      by_cases hot : o = t
      · have d3 : (o == t) = true := by simpa using hot
        have hbt := HY.out hot
        subst hbt
        clear hot
        go_wp2
        go_ret
        exact ⟨rfl, HB2.out⟩
      · have d3 : (o == t) = false := by simpa using hot
        have HN2 := Lib.hid (HN'.out hot)
        clear hot
        go_wp2_with fail
        refine HF.out.mono ?_
        rintro e w3 ⟨rfl, rfl⟩
        go_wp2
        go_roundw
        case rel => exact ⟨z', n + 1, _, rfl, Lib.hid HN2.out.1, HI2, HB2.out⟩
        case measure => exact HM'.out z' HN2.out.1 HN2.out.2
end
end Go.Proofs.Ytenhcpobncmedaa
