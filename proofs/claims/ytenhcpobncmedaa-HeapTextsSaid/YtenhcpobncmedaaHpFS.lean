/- A heap with keys of type ByteArray: contract of fix. -/
import Derived.Test.YtenhcpobncmedaaHpES
import Derived.Deep.CutBlock
import Derived.Deep.DeepCutAuto
namespace Go.Proofs.Ytenhcpobncmedaa.HS
open Go.RowKit
set_option maxHeartbeats 400000
set_option linter.unusedVariables false
set_option linter.unusedSimpArgs false
def pf (ps : List (Int × ByteArray)) : Nat → Int × ByteArray := fun k => ps.getD k zp
/-- The heap between two steps of fix: a permutation of what it was, its places known. -/
structure Mid (w0 : World) (ps0 : List (Int × ByteArray)) (wr : World) (B g b : Nat) (vi vk : Value) (ps : List (Int × ByteArray)) (f : Int → Option Int) (cnt : Nat) : Prop where
  st : St wr B g b vi vk ps f cnt
  pos : Pos zp ps f
  perm : ps.Perm ps0
  fr : Fr (F g b vi vk) w0 wr
namespace Mid
variable {w0 wr : World} {ps0 ps : List (Int × ByteArray)} {B g b : Nat} {vi vk : Value} {f : Int → Option Int} {cnt : Nat}
theorem drewN (h : Mid w0 ps0 wr B g b vi vk ps f cnt) (m : Nat) : Mid w0 ps0 (wr.drewN m) B g b vi vk ps f cnt := ⟨h.st.drewN m, h.pos, h.perm, h.fr.drewN m⟩
theorem swap {w' : World} {i j : Nat} {e : Ending} (h : Mid w0 ps0 wr B g b vi vk ps f cnt) (hi : i < ps.length) (hj : j < ps.length) (hs : SwapPost wr B g b vi vk ps f cnt i j e w') :
    e = .returned (.tuple #[]) ∧ Mid w0 ps0 w' B g b vi vk (swl zp ps i j) (upd1 (upd1 f (ps.getD j zp).1 i) (ps.getD i zp).1 j) cnt :=
  ⟨hs.1, hs.2.1, h.pos.swap hi hj, (swl_perm hi hj).trans h.perm, h.fr.trans' hs.2.2⟩
theorem len (h : Mid w0 ps0 wr B g b vi vk ps f cnt) : ps.length = ps0.length := h.perm.length_eq
theorem wf (h : Mid w0 ps0 wr B g b vi vk ps f cnt) (hw : ∀ p ∈ ps0, (Lit.int .i64 p.1).wf = true) : ∀ p ∈ ps, (Lit.int .i64 p.1).wf = true := fun p hp => hw p (h.perm.mem_iff.1 hp)
end Mid
theorem pf_swl {ps : List (Int × ByteArray)} {i j : Nat} (hi : i < ps.length) (hj : j < ps.length) : pf (swl zp ps i j) = swp (pf ps) i j := funext fun k => swl_get hi hj k
def FixPost (w : World) (B g b : Nat) (vi vk : Value) (ps : List (Int × ByteArray)) (cnt : Nat) (e : Ending) (w' : World) : Prop :=
  e = .returned (.tuple #[]) ∧ ∃ ps' f', Mid w ps w' B g b vi vk ps' f' cnt ∧ Heap (bef klt) ps'.length (pf ps')
def Up (w0 : World) (ps0 : List (Int × ByteArray)) (wr : World) (B g b : Nat) (vi vk : Value) (cnt i : Nat) : Prop :=
  ∃ ps f, Mid w0 ps0 wr B g b vi vk ps f cnt ∧ i < ps.length ∧ Hole (bef klt) ps.length (pf ps) i
def Dn (w0 : World) (ps0 : List (Int × ByteArray)) (wr : World) (B g b : Nat) (vi vk : Value) (cnt i : Nat) : Prop :=
  ∃ ps f, Mid w0 ps0 wr B g b vi vk ps f cnt ∧ i < ps.length ∧ Down (bef klt) ps.length (pf ps) i
/-- The best of i and its children ahead of c. -/
def bst (p : Nat → Int × ByteArray) (i c : Nat) : Nat := if c = 2 * i + 1 then i else if c = 2 * i + 2 then better (bef klt) p (2 * i + 1) i else better (bef klt) p (2 * i + 2) (better (bef klt) p (2 * i + 1) i)
theorem better_lt {p : Nat → Int × ByteArray} {c m n : Nat} (h1 : c < n) (h2 : m < n) : better (bef klt) p c m < n := by unfold better; split <;> assumption
theorem bst_next {p : Nat → Int × ByteArray} {i c : Nat} (h1 : 2 * i + 1 ≤ c) (h2 : c ≤ 2 * i + 2) : bst p i (c + 1) = better (bef klt) p c (bst p i c) := by
  have : c = 2 * i + 1 ∨ c = 2 * i + 2 := by omega
  rcases this with rfl | rfl
  · unfold bst; rw [if_neg (by omega), if_pos (by omega), if_pos rfl]
  · unfold bst; rw [if_neg (by omega), if_neg (by omega), if_neg (by omega), if_pos rfl]
theorem bst_end {p : Nat → Int × ByteArray} {i c n : Nat} (h1 : 2 * i + 1 ≤ c) (h2 : c ≤ 2 * i + 3) (h3 : c = 2 * i + 1 ∨ c - 1 < n) (h4 : ¬ (c ≤ 2 * i + 2 ∧ c < n)) : bst p i c = bestOf (bef klt) p n i := by
  have : c = 2 * i + 1 ∨ c = 2 * i + 2 ∨ c = 2 * i + 3 := by omega
  unfold bestOf
  rcases this with rfl | rfl | rfl
  · unfold bst; rw [if_pos rfl, if_neg (by omega), if_neg (by omega)]
  · unfold bst; rw [if_neg (by omega), if_pos rfl, if_neg (by omega), if_pos (by omega)]
  · unfold bst; rw [if_neg (by omega), if_neg (by omega), if_pos (by omega)]
theorem half (i : Nat) (h : 0 < i) : ((i : Int) - 1).tdiv 2 = ((hpar i : Nat) : Int) := by
  unfold hpar
  rw [Int.tdiv_eq_ediv_of_nonneg (by omega)]
  omega
set_option maxHeartbeats 4000000 in
set_option maxRecDepth 100000 in
theorem fix100 (g b : Nat) (vi vk : Value) (ps : List (Int × ByteArray)) (f : Int → Option Int) (cnt : Nat) (i : Nat) (w : World) (B : Nat) (h : St w B g b vi vk ps f cnt) (hi : i < ps.length)
    (hp : Pos zp ps f) (hl : ps.length < 4611686018427387904) (hcnt : cnt < maxLen) (hw : ∀ p ∈ ps, (Lit.int .i64 p.1).wf = true) (hh : Hole (bef klt) ps.length (pf ps) i) :
    Calls Try.prog 100 #[.pointer (some ⟨g, 0, none⟩), .int .i64 i] w (FixPost w B g b vi vk ps cnt) := by
  have HST := Lib.hid (show Up w ps w B g b vi vk cnt i from ⟨ps, f, ⟨h, hp, List.Perm.refl _, Fr.refl _ _⟩, hi, hh⟩)
  obtain ⟨A, c, A', c', rfl, hc1, hc2, rfl, hc3, hc4⟩ := h.shapes
  have HW := Lib.hid hw
  clear h hp hh hw
  have HL := Lib.hid hl
  generalize hll : ps.length = n at *
  have HLL := Lib.hid hll
  clear hll
  go_enter Try.func100, Try.ntmps100
  go_upto_block 0 with fail
  go_cut [1] (fun v1 wx => ∃ i : Nat, v1 = .int .i64 i ∧ Dn w ps wx B g b (.slice A n c) (.slice A' n c') cnt i)
  case first =>
    go_wp2_with fail
    go_loopw [1] (fun v1 wr => ∃ i : Nat, v1 = .int .i64 i ∧ Up w ps wr B g b (.slice A n c) (.slice A' n c') cnt i) (fun v1 _ => (intOf v1).toNat)
    case atStart => exact ⟨i, rfl, HST.out⟩
    case round =>
      clear HST hi
      obtain ⟨i, rfl, ps1, f1, hM, hi, hh⟩ := hrel
      have hln := hM.len
      by_cases h0 : 0 < i
      · have hpi : hpar i < ps1.length := by unfold hpar; omega
        have hpl : hpar i < i := by unfold hpar; omega
        have hhalf := half i h0
        have h0i : (0 : Int) < i := by omega
        have HB := Lib.hid (before151 g b _ _ ps1 f1 cnt i (hpar i) wr B hM.st hi hpi)
        have HSW := Lib.hid (fun nq => swap152 g b _ _ ps1 f1 cnt i (hpar i) (wr.drewN nq) B (hM.drewN nq).st hi hpi hM.pos (by have := HLL.out; omega) hcnt (hM.wf HW.out))
        have HM := Lib.hid hM
        have HI := Lib.hid hi
        have HPI := Lib.hid hpi
        have hib : (i : Int) < 4611686018427387904 := by have := HLL.out; omega
        have HUP := Lib.hid (hh.up (bef_ord sord) hi h0)
        have HDN := Lib.hid (fun hb => hh.down (fun _ => hb))
        clear hM hh hi hpi hln
        obtain ⟨j, hj⟩ : ∃ j, hpar i = j := ⟨_, rfl⟩
        rw [hj] at HB HSW HPI hpl hhalf HUP HDN
        clear hj
        cases hb : bef klt (ps1.getD i zp) (ps1.getD j zp) with
        | true =>
          have HBB := Lib.hid (HUP.out hb)
          rw [hb] at HB
          clear hb
          go_wp2_with fail
          refine HB.out.mono ?_
          rintro e w1 ⟨rfl, nq, rfl⟩
          go_wp2_with fail
          refine (HSW.out nq).mono ?_
          rintro e w2 hs
          obtain ⟨rfl, hM2⟩ := (HM.out.drewN nq).swap HI.out HPI.out hs
          have HN : Hid (Up w ps w2 B g b (.slice A n c) (.slice A' n c') cnt j) := Lib.hid ⟨_, _, hM2, by rw [swl_len]; exact HPI.out, by rw [pf_swl HI.out HPI.out, swl_len]; exact HBB.out⟩
          clear hs hM2
          go_wp2
          go_roundw
          case rel => exact ⟨j, by go_num, HN.out⟩
          case measure => simp [intOf]; omega
        | false =>
          have HBB := Lib.hid (HDN.out hb)
          rw [hb] at HB
          clear hb
          go_wp2_with fail
          refine HB.out.mono ?_
          rintro e w1 ⟨rfl, nq, rfl⟩
          have HN : Hid (Dn w ps (wr.drewN nq) B g b (.slice A n c) (.slice A' n c') cnt i) := Lib.hid ⟨_, _, HM.out.drewN nq, HI.out, HBB.out⟩
          go_wp2
          go_meet
          exact ⟨i, rfl, HN.out⟩
      · obtain rfl : i = 0 := by omega
        have HN : Hid (Dn w ps wr B g b (.slice A n c) (.slice A' n c') cnt 0) := Lib.hid ⟨_, _, hM, hi, hh.down (fun h => absurd h (by omega))⟩
        clear hM hh hln hi
        go_wp2
        go_meet
        exact ⟨0, rfl, HN.out⟩
  case rest =>
    clear hi HST
    obtain ⟨i, rfl, hD⟩ := hcut
    have HST := Lib.hid hD
    clear hD
    go_wp2_with fail
    go_loopw [1] (fun v1 wr => ∃ i : Nat, v1 = .int .i64 i ∧ Dn w ps wr B g b (.slice A n c) (.slice A' n c') cnt i) (fun v1 _ => n - (intOf v1).toNat)
    case atStart => exact ⟨i, rfl, HST.out⟩
    case round =>
      clear HST
      obtain ⟨i, rfl, ps1, f1, hM, hi, hd⟩ := hrel
      obtain ⟨W, hW⟩ : ∃ W, W = wr := ⟨_, rfl⟩
      subst hW
      have hln : ps1.length = n := by rw [hM.len, HLL.out]
      rw [hln] at hi hd
      have HLN := Lib.hid hln
      clear hln
      have HM := Lib.hid hM
      have HD := Lib.hid hd
      have hib : (i : Int) < 4611686018427387904 := by omega
      have b0 := hM.st.blk.cell 0
      have bl := hM.st.blk.lt
      have HB := Lib.hid (fun nq c m hc hm => before151 g b _ _ ps1 f1 cnt c m (W.drewN nq) B (HM.out.drewN nq).st hc hm)
      have hbst0 : bst (pf ps1) i (2 * i + 1) = i := by unfold bst; rw [if_pos rfl]
      have HS0 := Lib.hid hbst0
      clear hM hd hbst0
      go_upto_block 4 with fail
      go_cut [4] (fun v4 wx => v4 = .int .i64 (bestOf (bef klt) (pf ps1) n i : Nat) ∧ ∃ nq, wx = W.drewN nq)
      case first =>
        go_wp2_with fail
        go_loopw [4, 5] (fun v4 v5 wx => ∃ c m : Nat, v5 = .int .i64 c ∧ v4 = .int .i64 m ∧ Hid (m = bst (pf ps1) i c) ∧ 2 * i + 1 ≤ c ∧ c ≤ 2 * i + 3 ∧ (c = 2 * i + 1 ∨ c - 1 < n) ∧ m < n ∧ ∃ nq, wx = W.drewN nq) (fun _ v5 _ => 2 * i + 3 - (intOf v5).toNat)
        case atStart => exact ⟨2 * i + 1, i, by go_num, rfl, Lib.hid HS0.out.symm, by omega, by omega, by omega, hi, 0, rfl⟩
        case round =>
          obtain ⟨c2, m, rfl, rfl, hm, hr1, hr2, hr3, hmn, nq, rfl⟩ := hrel
          by_cases hc2 : c2 ≤ 2 * i + 2
          · have hci : (c2 : Int) ≤ 2 * (i : Int) + 2 := by omega
            by_cases hcn : c2 < n
            · have hcni : (c2 : Int) < (n : Int) := by omega
              have HB2 := Lib.hid (HB.out nq c2 m (by rw [HLN.out]; exact hcn) (by rw [HLN.out]; exact hmn))
              have HNX := Lib.hid (bst_next (p := pf ps1) hr1 hc2)
              rw [← hm.out] at HNX
              cases hb : bef klt (ps1.getD c2 zp) (ps1.getD m zp) with
              | true =>
                have HE := Lib.hid (HNX.out.trans (better_t hb))
                rw [hb] at HB2
                clear hb
                go_wp2_with fail
                refine HB2.out.mono ?_
                rintro e w1 ⟨rfl, nq2, rfl⟩
                go_wp2
                go_roundw
                case rel => exact ⟨c2 + 1, c2, by go_num, rfl, Lib.hid HE.out.symm, by omega, by omega, by omega, hcn, nq + nq2, rfl⟩
                case measure => simp [intOf]; omega
              | false =>
                have HE := Lib.hid (HNX.out.trans (better_f hb))
                rw [hb] at HB2
                clear hb
                go_wp2_with fail
                refine HB2.out.mono ?_
                rintro e w1 ⟨rfl, nq2, rfl⟩
                go_wp2
                go_roundw
                case rel => exact ⟨c2 + 1, m, by go_num, rfl, Lib.hid HE.out.symm, by omega, by omega, by omega, hmn, nq + nq2, rfl⟩
                case measure => simp [intOf]; omega
            · have hcni : ¬ (c2 : Int) < (n : Int) := by omega
              have HE := Lib.hid (hm.out.trans (bst_end hr1 hr2 hr3 (by omega)))
              go_wp2
              go_meet
              exact ⟨by rw [HE.out], nq, rfl⟩
          · have hci : ¬ (c2 : Int) ≤ 2 * (i : Int) + 2 := by omega
            have HE := Lib.hid (hm.out.trans (bst_end (n := n) hr1 hr2 hr3 (by omega)))
            go_wp2
            go_meet
            exact ⟨by rw [HE.out], nq, rfl⟩
      case rest =>
        obtain ⟨rfl, nq, rfl⟩ := hcut
        obtain ⟨hmn, hcs⟩ := bestOf_cases (bef_ord sord) (pf ps1) n i hi
        have HCS := Lib.hid hcs
        clear hcs
        generalize bestOf (bef klt) (pf ps1) n i = m at *
        by_cases hmi : m = i
        · subst hmi
          have HN : Hid (FixPost w B g b (.slice A n c) (.slice A' n c') ps cnt (.returned (.tuple #[])) (W.drewN nq)) := Lib.hid ⟨rfl, ps1, f1, HM.out.drewN nq, by
            rw [HLN.out]
            rcases HCS.out with ⟨_, h⟩ | ⟨h, _⟩
            · exact HD.out.heap h
            · omega⟩
          clear b0
          go_wp2
          refine bodyPost_ret (results_none rfl _ _ _) rfl ?_
          exact HN.out
        · have HS : Hid (i < m ∧ Down (bef klt) n (swp (pf ps1) i m) m) := Lib.hid (by
            rcases HCS.out with ⟨h, _⟩ | ⟨h1, h2, h3, h4⟩
            · exact absurd h hmi
            · exact ⟨h1, HD.out.step (bef_ord sord) hmn (by omega) h2 h3 h4⟩)
          have hil : i < m := HS.out.1
          have e1 : ((m : Int) == (i : Int)) = false := by simp; omega
          have HSW := Lib.hid (swap152 g b _ _ ps1 f1 cnt i m (W.drewN nq) B (HM.out.drewN nq).st (by rw [HLN.out]; exact hi) (by rw [HLN.out]; exact hmn) HM.out.pos (by rw [HLN.out]; exact HL.out) hcnt (HM.out.wf HW.out))
          have HI : Hid (i < ps1.length) := Lib.hid (by rw [HLN.out]; exact hi)
          have HMI : Hid (m < ps1.length) := Lib.hid (by rw [HLN.out]; exact hmn)
          clear b0 hmi
          go_wp2_with fail
          refine HSW.out.mono ?_
          rintro e w2 hs
          obtain ⟨rfl, hM2⟩ := (HM.out.drewN nq).swap HI.out HMI.out hs
          have HN : Hid (Dn w ps w2 B g b (.slice A n c) (.slice A' n c') cnt m) := Lib.hid ⟨_, _, hM2, by rw [swl_len]; exact HMI.out, by rw [pf_swl HI.out HMI.out, swl_len, HLN.out]; exact HS.out.2⟩
          clear hs hM2
          go_wp2
          go_roundw
          case rel => exact ⟨m, rfl, HN.out⟩
          case measure => simp [intOf]; omega
end Go.Proofs.Ytenhcpobncmedaa.HS
