/- Two lists of segments are held against each other: contracts of sameSeg and sameSegs. -/
import Derived.Test.YthlhjaacjhlkhaaSgD
import Derived.LoopTactic
namespace Go.Proofs.Ythlhjaacjhlkhaa
open Go.RowKit
set_option maxHeartbeats 400000
set_option linter.unusedVariables false
set_option linter.unusedSimpArgs false
theorem sameSeg_alike (x1 x2 x3 x4 : Int) (A A' : Option Addr) (m c m' c' : Nat) (ds : List Int) (w : World) (h : RB w w.heap.size A m ds) (h' : RB w w.heap.size A' m' ds) :
    Calls Try.prog 23 #[.agg #[.int .u32 x1, .int .u32 x2, .int .i64 x3, .int .i64 x4, .slice A m c], .agg #[.int .u32 x1, .int .u32 x2, .int .i64 x3, .int .i64 x4, .slice A' m' c']] w fun e w' => e = .returned (.bool true) ∧ Below w.heap.size w w' := by
  go_enter Try.func23, Try.ntmps23
  go_wp2_with (go_at_call 18; refine (sameBytes_any _ _ _ _ _ _ ds ds _ _ _ ((h.alloc (Nat.le_refl _) _).alloc (by simp) _) ((h'.alloc (Nat.le_refl _) _).alloc (by simp) _)).mono ?_; rintro e w1 ⟨rfl, rfl⟩)
  go_ret
  exact ⟨ret_bool (by simp), ((Below.refl _ _).alloc (Nat.le_refl _) _).alloc (by simp) _⟩
/-- A list of segments, to be read. -/
def SgR (W : World) (A : Option Addr) (L : List Sg) : Prop := ∃ rs : List Sq, rs.map Sq.sg = L ∧ RS Sq.cl 5 W W.heap.size A L.length rs ∧ ∀ r ∈ rs, RB W W.heap.size r.A r.sg.dat.length r.sg.dat
theorem SgL.rd {W : World} {B n c : Nat} {A : Option Addr} {L : List Sg} (h : SgL W B (.slice A n c) L) : n = L.length ∧ SgR W A L := by
  obtain ⟨rs, e, h1, h2⟩ := h
  have hl : rs.length = L.length := by rw [← e, List.length_map]
  obtain ⟨A2, c2, e2, _⟩ := h1.shape
  injection e2 with e3 e4 e5
  subst e3; subst e4; subst e5
  exact ⟨hl, rs, e, ⟨by rw [← hl]; exact h1.reads, hl⟩, fun r hr => ⟨(h2 r hr).1.reads, (h2 r hr).2⟩⟩
theorem SgR.below {W W' : World} {A : Option Addr} {L : List Sg} (h : SgR W A L) (hb : Below W.heap.size W W') : SgR W' A L := by
  obtain ⟨rs, e, h1, h2⟩ := h
  exact ⟨rs, e, (h1.below' hb (Nat.le_refl _)).more hb.size, fun r hr => ((h2 r hr).below' hb (Nat.le_refl _)).more hb.size⟩
def Sg0 : Sg := ⟨0, 0, 0, 0, []⟩
theorem SgR.at_ {W : World} {A : Option Addr} {L : List Sg} {k : Nat} (h : SgR W A L) (hk : k < L.length) : ∃ b o A5 c5, A = some ⟨b, o, none⟩ ∧ b < W.heap.size ∧ RB W W.heap.size A5 (L.getD k Sg0).dat.length (L.getD k Sg0).dat ∧
    W.cell? ⟨b, o + k * 5 + 0, none⟩ = some (.int .u32 (L.getD k Sg0).seq) ∧ W.cell? ⟨b, o + k * 5 + 1, none⟩ = some (.int .u32 (L.getD k Sg0).ack) ∧ W.cell? ⟨b, o + k * 5 + 2, none⟩ = some (.int .i64 (L.getD k Sg0).flags) ∧ W.cell? ⟨b, o + k * 5 + 3, none⟩ = some (.int .i64 (L.getD k Sg0).window) ∧ W.cell? ⟨b, o + k * 5 + 4, none⟩ = some (.slice A5 (L.getD k Sg0).dat.length c5) := by
  obtain ⟨rs, e, h1, h2⟩ := h
  obtain ⟨b, o, e1, hb, hm, hc⟩ := RS.at_ Sq.cl_len ⟨Sg0, none, 0⟩ h1 hk
  have hkl : k < rs.length := by rw [h1.2]; exact hk
  have es : (rs.getD k ⟨Sg0, none, 0⟩).sg = L.getD k Sg0 := by
    rw [← e]
    simp [List.getD, List.getElem?_eq_getElem hkl]
  rw [← es]
  exact ⟨b, o, _, _, e1, hb, h2 _ hm, hc 0 _ rfl, hc 1 _ rfl, hc 2 _ rfl, hc 3 _ rfl, hc 4 _ rfl⟩
set_option maxHeartbeats 2000000 in
set_option maxRecDepth 100000 in
theorem sameSegs_alike (A A' : Option Addr) (c c' : Nat) (L : List Sg) (w : World) (h : SgR w A L) (h' : SgR w A' L) (hl : L.length ≤ 1000000) (hc : L.length ≤ c) (hc' : L.length ≤ c') :
    Calls Try.prog 49 #[.slice A L.length c, .slice A' L.length c'] w fun e w' => e = .returned (.bool true) ∧ Below w.heap.size w w' := by
  have H1 := Lib.hid (fun k (hk : k < L.length) => h.at_ hk)
  have H2 := Lib.hid (fun k (hk : k < L.length) => h'.at_ hk)
  have HB1 := Lib.hid (fun W (hb : Below w.heap.size w W) => h.below hb)
  have HB2 := Lib.hid (fun W (hb : Below w.heap.size w W) => h'.below hb)
  obtain ⟨n, hn⟩ : ∃ n, L.length = n := ⟨_, rfl⟩
  rw [hn] at hl hc hc' ⊢
  have HN := Lib.hid hn
  clear h h' hn H1 H2
  go_enter Try.func49, Try.ntmps49
  go_wp2
  go_loopw [13] (fun i wr => ∃ k : Nat, k ≤ n ∧ i = .int .i64 k ∧ Below w.heap.size w wr) (fun i _ => n - (intOf i).toNat)
  case atStart => exact ⟨0, by omega, rfl, Below.refl _ _⟩
  case round =>
    obtain ⟨k, hk, rfl, hbw⟩ := hrel
    by_cases hlt : k < n
    · obtain ⟨b, o, A5, c5, rfl, hb, hrb, k0, k1, k2, k3, k4⟩ := (HB1.out _ hbw).at_ (k := k) (by rw [HN.out]; exact hlt)
      obtain ⟨b', o', A6, c6, rfl, hb', hrb', k0', k1', k2', k3', k4'⟩ := (HB2.out _ hbw).at_ (k := k) (by rw [HN.out]; exact hlt)
      have HBW := Lib.hid hbw
      have hk5 : (k : Int) < n := by omega
      generalize L.getD k Sg0 = sg at *
      obtain ⟨x1, x2, x3, x4, ds⟩ := sg
      dsimp only at *
      rw [Nat.add_zero] at k0 k0'
      have HSS := Lib.hid (fun W (hW : Below wr.heap.size wr W) => sameSeg_alike x1 x2 x3 x4 A5 A6 ds.length c5 ds.length c6 ds W ((hrb.below' hW (Nat.le_refl _)).more hW.size) ((hrb'.below' hW (Nat.le_refl _)).more hW.size))
      clear hbw hrb hrb'
      go_wp2_with fail
      refine wp_region_near wr.heap.size (by kernel_rfl) (by kernel_rfl) ?_
      repeat (go_big_quiet_step (first | (go_at_call 23; exact Calls.near (Near.prop _).size (HSS.out _ (Near.prop _)))))
      refine wpQuiet_nil ?_
      intro wz hbz
      have HBZ := Lib.hid hbz
      clear hbz k0 k1 k2 k3 k4 k0' k1' k2' k3' k4'
      go_wp2
      go_roundw
      case rel => exact ⟨k + 1, by omega, by go_num, HBW.out.trans (HBZ.out.mono HBW.out.size)⟩
      case measure => simp [intOf]; omega
    · obtain rfl : k = n := by omega
      have HBW := Lib.hid hbw
      clear hbw
      go_wp2
      go_ret
      exact ⟨rfl, HBW.out⟩
end Go.Proofs.Ythlhjaacjhlkhaa
