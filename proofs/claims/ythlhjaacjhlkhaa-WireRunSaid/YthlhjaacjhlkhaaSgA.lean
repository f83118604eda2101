/- One end of a stream: contract of say (a segment is made). -/
import Derived.Test.YthlhjaacjhlkhaaStI
namespace Go.Proofs.Ythlhjaacjhlkhaa
open Go.RowKit
set_option maxHeartbeats 400000
set_option linter.unusedVariables false
set_option linter.unusedSimpArgs false
theorem row_ne_blk {w : World} {B n g : Nat} {v : Value} {e t : TypeId} {sz : Nat} {xs : List Value} {cs : Array Value} (h : Row w B e sz v n xs) (hb : Blk w g cs t) (hne : e ≠ t) : v.ownBlock ≠ some g := by
  intro he
  rcases h.2 with ⟨rfl, _⟩ | ⟨g', o, cap, cur, rfl, _, hh, _⟩
  · simp [Value.ownBlock] at he
  · have : g' = g := by simpa [Value.ownBlock] using he
    subst this
    unfold Blk at hb
    rw [hb] at hh
    injection hh with hh
    injection hh with _ ht
    exact hne ht.symm
def zsg : Array Value := #[.int .u32 0, .int .u32 0, .int .i64 0, .int .i64 0, .slice none 0 0]
/-- Under way in say: the object, the result's block (the call's first), the segment's block, its bytes. -/
structure SPos (w : World) (B g : Nat) (t : TypeId) (vo vi : Value) (xs ys : List Int) (W : World) (cs : Value → Value → Array Value) (g7 : Nat) (sb : Array Value) : Prop where
  o : Ob2 W B g t cs vo vi xs ys
  f : Fr (fun k => k = g) w W
  z : Blk W w.heap.size zsg 25
  k : Blk W g7 sb 25
  l : w.heap.size < g7
  fp : ∀ k, Ob2F g vo vi k → k < w.heap.size
namespace SPos
variable {w W W' : World} {B g g7 n c : Nat} {t : TypeId} {vo vi : Value} {xs ys ds : List Int} {cs cs' : Value → Value → Array Value} {sb : Array Value} {A : Option Addr}
theorem grow (h : SPos w B g t vo vi xs ys W cs g7 sb) (hb : Below W.heap.size W W') : SPos w B g t vo vi xs ys W' cs g7 sb :=
  ⟨h.o.grow hb, h.f.trans ((Fr.of_grow hb).mono (fun _ _ h => h.elim)) (fun _ _ h => h), h.z.fr (Fr.of_grow hb) (fun h => h), h.k.fr (Fr.of_grow hb) (fun h => h), h.l, h.fp⟩
theorem drew (h : SPos w B g t vo vi xs ys W cs g7 sb) : SPos w B g t vo vi xs ys W.drew cs g7 sb := h.grow ((Below.refl _ _).drew)
theorem drewN (h : SPos w B g t vo vi xs ys W cs g7 sb) (m : Nat) : SPos w B g t vo vi xs ys (W.drewN m) cs g7 sb := h.grow (st_drewN (Below.refl _ _) m)
theorem setE (h : SPos w B g t vo vi xs ys W cs g7 sb) (j : Nat) (u : Value) (ha : (cs vo vi).setIfInBounds j u = cs' vo vi) : SPos w B g t vo vi xs ys (W.setCell ⟨g, j, none⟩ u) cs' g7 sb := by
  have hg := h.fp g (.inl rfl)
  exact ⟨(h.o.set1 j u ha).1, h.f.setCell (p := ⟨g, j, none⟩) (fun _ => rfl) u, h.z.set_other (p := ⟨g, j, none⟩) (by show g ≠ w.heap.size; omega) u, h.k.set_other (p := ⟨g, j, none⟩) (by show g ≠ g7; have := h.l; omega) u, h.l, h.fp⟩
theorem setS (h : SPos w B g t vo vi xs ys W cs g7 sb) (j : Nat) (u : Value) : SPos w B g t vo vi xs ys (W.setCell ⟨g7, j, none⟩ u) cs g7 (sb.setIfInBounds j u) := by
  have hl := h.l
  refine ⟨h.o.keep (S := fun k => k = g7) ((Fr.refl (fun k => k = g7) W).setCell (p := ⟨g7, j, none⟩) (fun _ => rfl) u) (fun k hk e => by have := h.fp k hk; have e : k = g7 := e; omega), h.f.setCell (p := ⟨g7, j, none⟩) (fun hh => by have hh : g7 < w.heap.size := hh; omega) u, h.z.set_other (p := ⟨g7, j, none⟩) (by show g7 ≠ w.heap.size; omega) u, h.k.set j u, h.l, h.fp⟩
theorem rowE (h : SPos w B g t vo vi xs ys W cs g7 sb) (hr : Row W w.heap.size 5 1 (.slice A n c) n (ds.map (Value.int .u8))) (j : Nat) (u : Value) : Row (W.setCell ⟨g, j, none⟩ u) w.heap.size 5 1 (.slice A n c) n (ds.map (Value.int .u8)) :=
  hr.setCell (p := ⟨g, j, none⟩) (fun e => by have := (hr.lt g e).1; have := h.fp g (.inl rfl); omega) u
theorem rowS (h : SPos w B g t vo vi xs ys W cs g7 sb) (hr : Row W w.heap.size 5 1 (.slice A n c) n (ds.map (Value.int .u8))) (j : Nat) (u : Value) : Row (W.setCell ⟨g7, j, none⟩ u) w.heap.size 5 1 (.slice A n c) n (ds.map (Value.int .u8)) :=
  hr.setCell (p := ⟨g7, j, none⟩) (row_ne_blk hr h.k (by decide)) u
end SPos
/-- What say hands out: a segment whose bytes lie in new blocks; only the object's block has turned. -/
def SayP (w : World) (B g : Nat) (t : TypeId) (cs' : Value → Value → Array Value) (vo vi : Value) (xs ys : List Int) (sg : Sg) (e : Ending) (w' : World) : Prop :=
  ∃ A c, e = .returned (sgc sg.seq sg.ack sg.flags sg.window A sg.dat.length c) ∧ Row w' w.heap.size 5 1 (.slice A sg.dat.length c) sg.dat.length (sg.dat.map (Value.int .u8)) ∧ Ob2 w' B g t cs' vo vi xs ys ∧ Fr (fun k => k = g) w w'
/-- The end of say: the segment goes into the result's block. -/
theorem SPos.done {w W : World} {B g g7 c n : Nat} {t : TypeId} {vo vi : Value} {xs ys : List Int} {cs : Value → Value → Array Value} {sg : Sg} {A : Option Addr} (h : SPos w B g t vo vi xs ys W cs g7 (sgb sg.seq sg.ack sg.flags sg.window A n c)) (hn : n = sg.dat.length) (hr : Row W w.heap.size 5 1 (.slice A n c) n (sg.dat.map (Value.int .u8))) :
    SayP w B g t cs vo vi xs ys sg (.returned (sgc sg.seq sg.ack sg.flags sg.window A n c)) (((((W.setCell ⟨w.heap.size, 0, none⟩ (.int .u32 sg.seq)).setCell ⟨w.heap.size, 1, none⟩ (.int .u32 sg.ack)).setCell ⟨w.heap.size, 2, none⟩ (.int .i64 sg.flags)).setCell ⟨w.heap.size, 3, none⟩ (.int .i64 sg.window)).setCell ⟨w.heap.size, 4, none⟩ (.slice A n c)) := by
  subst hn
  have hf : ∀ (W0 : World) j u, Fr (fun k => k = w.heap.size) W0 (W0.setCell ⟨w.heap.size, j, none⟩ u) := fun W0 j u => (Fr.refl (fun k => k = w.heap.size) W0).setCell (p := ⟨w.heap.size, j, none⟩) (fun _ => rfl) u
  have hF : Fr (fun k => k = w.heap.size) W (((((W.setCell ⟨w.heap.size, 0, none⟩ (.int .u32 sg.seq)).setCell ⟨w.heap.size, 1, none⟩ (.int .u32 sg.ack)).setCell ⟨w.heap.size, 2, none⟩ (.int .i64 sg.flags)).setCell ⟨w.heap.size, 3, none⟩ (.int .i64 sg.window)).setCell ⟨w.heap.size, 4, none⟩ (.slice A sg.dat.length c)) :=
    ((((hf _ 0 _).trans' (hf _ 1 _)).trans' (hf _ 2 _)).trans' (hf _ 3 _)).trans' (hf _ 4 _)
  have hne := row_ne_blk hr h.z (by decide)
  refine ⟨A, c, rfl, hr.fr hF (fun k hk e => hne (e ▸ hk)), h.o.keep hF (fun k hk e => by have := h.fp k hk; have e : k = w.heap.size := e; omega), h.f.trans hF (fun k hk e => by have e : k = w.heap.size := e; omega)⟩
/-- A row, as a value that a region leaves. -/
def rowSt (base : Nat) (n : Nat) (xs : List Int) : St := ⟨fun v w => Row w base 5 1 v n (xs.map (Value.int .u8)), fun v w w' h hg => h.grow hg⟩
section
variable {w : World} {B g : Nat} {x : EC} {vo vi : Value} {xs ys : List Int}
def sayX (x : EC) (sp : Int) : EC := { x with nxt := (x.nxt + sp) % 4294967296, top := if befB x.top ((x.nxt + sp) % 4294967296) = true then (x.nxt + sp) % 4294967296 else x.top, due := false }
def sayE (x : EC) (l : Nat) (fl : Int) (ds : List Int) : Sg := ⟨x.nxt, if 3 ≤ x.st then x.rcv else 0, if 3 ≤ x.st then fl + 2 else fl, 64 - l, ds⟩
set_option maxHeartbeats 4000000 in
set_option maxRecDepth 100000 in
theorem say95a (h : ESt w B g x vo vi xs ys) (fl : Int) (hfl : fl = 0 ∨ fl = 1 ∨ fl = 4) (A : Option Addr) (n c : Nat) (ds : List Int) (hd : RB w w.heap.size A n ds) (hn : n ≤ 32) (hy : ys.length ≤ 64) (hst : 3 ≤ x.st) (bt : Bool) (hbt : befB x.top ((x.nxt + (n + fl % 2 + fl / 4 % 2)) % 4294967296) = bt) :
    Calls Try.prog 95 #[.pointer (some ⟨g, 0, none⟩), .int .i64 fl, .slice A n c] w (SayP w B g 128 (ecells (sayX x (n + fl % 2 + fl / 4 % 2))) vo vi xs ys (sayE x ys.length fl ds)) := by
  have hfl2 : (Lit.int .i64 fl).wf = true := by rcases hfl with rfl | rfl | rfl <;> rfl
  have hor : bits .or .i64 fl 2 = fl + 2 := by rcases hfl with rfl | rfl | rfl <;> decide +kernel
  have hfr : 0 ≤ fl ∧ fl ≤ 7 := by omega
  have HLN := Lib.hid hd.len
  have hb0 : Below w.heap.size w (w.alloc (.cells zsg 25)) := (Below.refl _ _).alloc (Nat.le_refl _) _
  have hu := hb0.size
  have HB0 : Hid (Below (w.heap.size + 1) (w.alloc (.cells zsg 25)) (w.alloc (.cells zsg 25))) := Lib.hid (Below.refl _ _)
  have HTO : Hid (∀ w', Below (w.heap.size + 1) (w.alloc (.cells zsg 25)) w' → Below w.heap.size w w') := Lib.hid (fun w' hb => hb0.trans (hb.mono (by omega)))
  have HRB : Hid (∀ w', Below (w.heap.size + 1) (w.alloc (.cells zsg 25)) w' → RB w' w.heap.size A n ds) := Lib.hid (fun w' hb => hd.below' (HTO.out w' hb) (Nat.le_refl _))
  have HSP := Lib.hid (fun (f : Int) (A7 : Option Addr) (c7 : Nat) (a W) => span_any x.nxt a f (64 - (ys.length : Int)) A7 n c7 W (by unfold maxLen; omega))
  have HOB := Lib.hid h
  have HFP := Lib.hid (fun k hk => (Ob2.lt h k hk).2)
  obtain ⟨A0, c0, A', c', rfl, rfl, h1, h2, h3, h4⟩ := h.look
  have HK : Hid (∀ w', Below (w.heap.size + 1) (w.alloc (.cells zsg 25)) w' → w'.cell? ⟨g, 2, none⟩ = some (.int .u32 x.nxt) ∧ w'.cell? ⟨g, 7, none⟩ = some (.slice A' ys.length c')) := Lib.hid (fun w' hb => by
    have hc := (Ob2.grow HOB.out (HTO.out w' hb)).blk.cell
    exact ⟨hc 2, hc 7⟩)
  have hgl := (Ob2.blk h).lt
  have HNX : Hid (sayX x (n + fl % 2 + fl / 4 % 2) = { x with nxt := (x.nxt + (n + fl % 2 + fl / 4 % 2)) % 4294967296, top := if bt = true then (x.nxt + (n + fl % 2 + fl / 4 % 2)) % 4294967296 else x.top, due := false }) := Lib.hid (by unfold sayX; rw [hbt])
  have HBT := Lib.hid (fun W => before_any x.top ((x.nxt + (n + fl % 2 + fl / 4 % 2)) % 4294967296) W)
  rw [hbt] at HBT
  obtain ⟨sp, hsp⟩ : ∃ sp, (n : Int) + fl % 2 + fl / 4 % 2 = sp := ⟨_, rfl⟩
  have HSPE : Hid (spanI n fl = sp ∧ spanI n (fl + 2) = sp) := Lib.hid (by
    rw [spanI_small hn, spanI_small hn]
    unfold spanF
    omega)
  rw [hsp] at HNX HBT ⊢
  obtain ⟨SG, hSG⟩ : ∃ SG, sayE x ys.length fl ds = SG := ⟨_, rfl⟩
  obtain ⟨X', hX'⟩ : ∃ X', sayX x sp = X' := ⟨_, rfl⟩
  rw [hSG, hX']
  rw [hX'] at HNX
  have HSG : Hid (SG = ⟨x.nxt, x.rcv, fl + 2, 64 - ys.length, ds⟩) := Lib.hid (by rw [← hSG]; unfold sayE; rw [if_pos hst, if_pos hst])
  clear h hd hbt hb0 hu hsp hfl hSG hX'
  generalize hl0 : ys.length = l at *
  have HL0 := Lib.hid hl0
  clear hl0
  go_enter Try.func95, Try.ntmps95
  go_wp2_with fail
  refine wp_region_walk (fun w' => Below (w.heap.size + 1) (w.alloc (.cells zsg 25)) w' ∧ w.heap.size + 1 ≤ w'.heap.size) [[], [(8, 0)], [(9, 1)], [(10, 2)], [], [], [(13, 5)], [(14, 6)], [(15, 7)], [(16, 8)], [(17, 9)], [], [(19, 11)], [(11, 3), (12, 4), (18, 10), (20, 12)], []]
    [(8, 0), (9, 1), (10, 2), (11, 3), (12, 4), (13, 5), (14, 6), (15, 7), (16, 8), (17, 9), (18, 10), (19, 11), (20, 12), (21, 13), (7, 14)] (by kernel_rfl) (by kernel_rfl) (by kernel_rfl) ⟨HB0.out.drew, by have := HB0.out.size; simp⟩ ?_
  apply Flow.det_step
  · go_light
    intro w1 hC1
    simp only [Flow.fill, Flow.after, Flow.at_, List.nil_append, List.cons_append, List.getD_cons_zero, List.getD_cons_succ, det, forall_eq, List.setIfInBounds_toArray, List.set_cons_zero, List.set_cons_succ, List.drop, List.length]
    obtain ⟨hb1, hsz1⟩ := hC1
    obtain ⟨k2, k7⟩ := HK.out w1 hb1
    go_wp2
    exact Flow.post_det ⟨hb1, hsz1⟩ (Grow.refl _) rfl rfl
  apply Flow.det_step
  · go_light
    intro w1 hC1
    simp only [Flow.fill, Flow.after, Flow.at_, List.nil_append, List.cons_append, List.getD_cons_zero, List.getD_cons_succ, det, forall_eq, List.setIfInBounds_toArray, List.set_cons_zero, List.set_cons_succ, List.drop, List.length]
    obtain ⟨hb1, hsz1⟩ := hC1
    obtain ⟨k2, k7⟩ := HK.out w1 hb1
    go_wp2
    exact Flow.post_det ⟨hb1, hsz1⟩ (Grow.refl _) rfl rfl
  apply Flow.det_step
  · go_light
    intro w1 hC1
    simp only [Flow.fill, Flow.after, Flow.at_, List.nil_append, List.cons_append, List.getD_cons_zero, List.getD_cons_succ, det, forall_eq, List.setIfInBounds_toArray, List.set_cons_zero, List.set_cons_succ, List.drop, List.length]
    obtain ⟨hb1, hsz1⟩ := hC1
    obtain ⟨k2, k7⟩ := HK.out w1 hb1
    go_wp2
    exact Flow.post_det ⟨hb1, hsz1⟩ (Grow.refl _) rfl rfl
  apply Flow.det_step
  · go_light
    intro w1 hC1
    simp only [Flow.fill, Flow.after, Flow.at_, List.nil_append, List.cons_append, List.getD_cons_zero, List.getD_cons_succ, det, forall_eq, List.setIfInBounds_toArray, List.set_cons_zero, List.set_cons_succ, List.drop, List.length]
    obtain ⟨hb1, hsz1⟩ := hC1
    obtain ⟨k2, k7⟩ := HK.out w1 hb1
    go_wp2
    exact Flow.post_det ⟨hb1, hsz1⟩ (Grow.refl _) rfl rfl
  apply Flow.det_step
  · go_light
    intro w1 hC1
    simp only [Flow.fill, Flow.after, Flow.at_, List.nil_append, List.cons_append, List.getD_cons_zero, List.getD_cons_succ, det, forall_eq, List.setIfInBounds_toArray, List.set_cons_zero, List.set_cons_succ, List.drop, List.length]
    obtain ⟨hb1, hsz1⟩ := hC1
    obtain ⟨k2, k7⟩ := HK.out w1 hb1
    go_wp2
    exact Flow.post_det ⟨hb1, hsz1⟩ (Grow.refl _) rfl rfl
  apply Flow.det_step
  · go_light
    intro w1 hC1
    simp only [Flow.fill, Flow.after, Flow.at_, List.nil_append, List.cons_append, List.getD_cons_zero, List.getD_cons_succ, det, forall_eq, List.setIfInBounds_toArray, List.set_cons_zero, List.set_cons_succ, List.drop, List.length]
    obtain ⟨hb1, hsz1⟩ := hC1
    obtain ⟨k2, k7⟩ := HK.out w1 hb1
    go_wp2
    exact Flow.post_det ⟨hb1, hsz1⟩ (Grow.refl _) rfl rfl
  apply Flow.det_step
  · go_light
    intro w1 hC1
    simp only [Flow.fill, Flow.after, Flow.at_, List.nil_append, List.cons_append, List.getD_cons_zero, List.getD_cons_succ, det, forall_eq, List.setIfInBounds_toArray, List.set_cons_zero, List.set_cons_succ, List.drop, List.length]
    obtain ⟨hb1, hsz1⟩ := hC1
    obtain ⟨k2, k7⟩ := HK.out w1 hb1
    go_wp2
    exact Flow.post_det ⟨hb1, hsz1⟩ (Grow.refl _) rfl rfl
  apply Flow.det_step
  · go_light
    intro w1 hC1
    simp only [Flow.fill, Flow.after, Flow.at_, List.nil_append, List.cons_append, List.getD_cons_zero, List.getD_cons_succ, det, forall_eq, List.setIfInBounds_toArray, List.set_cons_zero, List.set_cons_succ, List.drop, List.length]
    obtain ⟨hb1, hsz1⟩ := hC1
    obtain ⟨k2, k7⟩ := HK.out w1 hb1
    go_wp2
    exact Flow.post_det ⟨hb1, hsz1⟩ (Grow.refl _) rfl rfl
  apply Flow.det_step
  · go_light
    intro w1 hC1
    simp only [Flow.fill, Flow.after, Flow.at_, List.nil_append, List.cons_append, List.getD_cons_zero, List.getD_cons_succ, det, forall_eq, List.setIfInBounds_toArray, List.set_cons_zero, List.set_cons_succ, List.drop, List.length]
    obtain ⟨hb1, hsz1⟩ := hC1
    obtain ⟨k2, k7⟩ := HK.out w1 hb1
    go_wp2
    exact Flow.post_det ⟨hb1, hsz1⟩ (Grow.refl _) rfl rfl
  apply Flow.det_step
  · go_light
    intro w1 hC1
    simp only [Flow.fill, Flow.after, Flow.at_, List.nil_append, List.cons_append, List.getD_cons_zero, List.getD_cons_succ, det, forall_eq, List.setIfInBounds_toArray, List.set_cons_zero, List.set_cons_succ, List.drop, List.length]
    obtain ⟨hb1, hsz1⟩ := hC1
    obtain ⟨k2, k7⟩ := HK.out w1 hb1
    go_wp2
    exact Flow.post_det ⟨hb1, hsz1⟩ (Grow.refl _) rfl rfl
  apply Flow.det_step
  · go_light
    intro w1 hC1
    simp only [Flow.fill, Flow.after, Flow.at_, List.nil_append, List.cons_append, List.getD_cons_zero, List.getD_cons_succ, det, forall_eq, List.setIfInBounds_toArray, List.set_cons_zero, List.set_cons_succ, List.drop, List.length]
    obtain ⟨hb1, hsz1⟩ := hC1
    obtain ⟨k2, k7⟩ := HK.out w1 hb1
    go_wp2
    exact Flow.post_det ⟨hb1, hsz1⟩ (Grow.refl _) rfl rfl
  apply Flow.det_step
  · go_light
    intro w1 hC1
    simp only [Flow.fill, Flow.after, Flow.at_, List.nil_append, List.cons_append, List.getD_cons_zero, List.getD_cons_succ, det, forall_eq, List.setIfInBounds_toArray, List.set_cons_zero, List.set_cons_succ, List.drop, List.length]
    obtain ⟨hb1, hsz1⟩ := hC1
    obtain ⟨k2, k7⟩ := HK.out w1 hb1
    go_wp2
    exact Flow.post_det ⟨hb1, hsz1⟩ (Grow.refl _) rfl rfl
  refine Flow.st_step (rowSt (w.heap.size + 1) n ds) ?_ ?_
  · go_light
    intro w1 hC1
    simp only [Flow.fill, Flow.after, Flow.at_, List.nil_append, List.cons_append, List.getD_cons_zero, List.getD_cons_succ, det, forall_eq, List.setIfInBounds_toArray, List.set_cons_zero, List.set_cons_succ, List.drop, List.length]
    obtain ⟨hb1, hsz1⟩ := hC1
    obtain ⟨k2, k7⟩ := HK.out w1 hb1
    go_wp2_with (go_at_call 90; refine (bclone_any _ _ _ ds _ _ (HRB.out w1 hb1) (Nat.le_of_lt hsz1) (by omega)).mono ?_; rintro e w4 ⟨v, rfl, hrow4, hg2⟩)
    exact Flow.post_st ⟨hb1.trans (hg2.mono hsz1), Nat.le_trans hsz1 hg2.size⟩ hg2 rfl rfl (hrow4.base_le hsz1)
  refine Flow.st_step (⟨fun v W => ∃ A cc, v = .agg #[.int .u32 x.nxt, .int .u32 0, .int .i64 fl, .int .i64 (64 - (l : Int)), .slice A n cc] ∧ Row W (w.heap.size + 1) 5 1 (.slice A n cc) n (ds.map (Value.int .u8)), fun v W W' hh hg => by obtain ⟨A, cc, h1, h2⟩ := hh; exact ⟨A, cc, h1, h2.grow hg⟩⟩) ?_ ?_
  · go_light
    intro w1 hC1
    simp only [Flow.fill, Flow.after, Flow.at_, List.nil_append, List.cons_append, List.getD_cons_zero, List.getD_cons_succ, det, forall_eq, List.setIfInBounds_toArray, List.set_cons_zero, List.set_cons_succ, List.drop, List.length]
    rintro v20 hv20
    obtain ⟨hb1, hsz1⟩ := hC1
    obtain ⟨k2, k7⟩ := HK.out w1 hb1
    have hv20' : Row w1 (w.heap.size + 1) 5 1 v20 n (ds.map (Value.int .u8)) := hv20
    obtain ⟨A20, c20, rfl, -, -⟩ := hv20'.shape
    go_wp2
    exact Flow.post_st ⟨hb1, hsz1⟩ (Grow.refl _) rfl rfl ⟨_, _, rfl, hv20'⟩
  refine Flow.st_step (⟨fun v W => ∃ g7, v = .pointer (some ⟨g7, 0, none⟩) ∧ w.heap.size + 1 ≤ g7 ∧ g7 < W.heap.size ∧ Blk W g7 zsg 25, fun v W W' hh hg => by obtain ⟨g7, h1, h2, h3, h4⟩ := hh; exact ⟨g7, h1, h2, Nat.lt_of_lt_of_le h3 hg.size, h4.fr (Fr.of_grow hg) (fun h => h)⟩⟩) ?_ ?_
  · go_light
    intro w1 hC1
    simp only [Flow.fill, Flow.after, Flow.at_, List.nil_append, List.cons_append, List.getD_cons_zero, List.getD_cons_succ, det, forall_eq, List.setIfInBounds_toArray, List.set_cons_zero, List.set_cons_succ, List.drop, List.length]
    obtain ⟨hb1, hsz1⟩ := hC1
    obtain ⟨k2, k7⟩ := HK.out w1 hb1
    go_wp2
    exact Flow.post_st ⟨hb1.alloc hsz1 _, by simp; omega⟩ (Grow.alloc _ _) rfl rfl ⟨_, rfl, hsz1, by simp, heap_alloc_new _ _⟩
  intro w1 hC1
  simp only [Flow.fill, Flow.after, Flow.at_, List.nil_append, List.cons_append, List.getD_cons_zero, List.getD_cons_succ, det, forall_eq, List.setIfInBounds_toArray, List.set_cons_zero, List.set_cons_succ, List.drop, List.length]
  rintro _ - _ ⟨A21, c21, rfl, hr21⟩ _ ⟨g7, rfl, hg7, hg7l, hcs7⟩
  obtain ⟨hb1, hsz1⟩ := hC1
  have hr70 : Row w1 (w.heap.size + 1) 5 1 (.slice A21 n c21) n (ds.map (Value.int .u8)) := hr21
  have hr7 := hr70.base_le (base' := w.heap.size) (Nat.le_succ _)
  clear hr70
  have hSP0 : SPos w B g 128 (.slice A0 xs.length c0) (.slice A' l c') xs ys w1 (ecells x) g7 zsg :=
    ⟨Ob2.grow HOB.out (HTO.out w1 hb1), (Fr.of_grow (HTO.out w1 hb1)).mono (fun _ _ h => h.elim), Blk.fr (show Blk (w.alloc (.cells zsg 25)) w.heap.size zsg 25 from heap_alloc_new w _) (S := fun k => w.heap.size + 1 ≤ k) (Fr.of_below hb1) (by omega), hcs7, by omega, HFP.out⟩
  have HP0 := Lib.hid hSP0
  clear hSP0
  have hP0 := HP0.out
  have hP1 := hP0.setS 0 (.int .u32 x.nxt)
  have hR1 := hP0.rowS hr7 0 (.int .u32 x.nxt)
  have hP2 := hP1.setS 1 (.int .u32 0)
  have hR2 := hP1.rowS hR1 1 (.int .u32 0)
  have hP3 := hP2.setS 2 (.int .i64 fl)
  have hR3 := hP2.rowS hR2 2 (.int .i64 fl)
  have hP4 := hP3.setS 3 (.int .i64 (64 - (l : Int)))
  have hR4 := hP3.rowS hR3 3 (.int .i64 (64 - (l : Int)))
  have hP5 := hP4.setS 4 (.slice A21 n c21)
  have hR5 := hP4.rowS hR4 4 (.slice A21 n c21)
  have HP5 : Hid (SPos w B g 128 (.slice A0 xs.length c0) (.slice A' l c') xs ys (((((w1.setCell ⟨g7, 0, none⟩ (.int .u32 x.nxt)).setCell ⟨g7, 1, none⟩ (.int .u32 0)).setCell ⟨g7, 2, none⟩ (.int .i64 fl)).setCell ⟨g7, 3, none⟩ (.int .i64 (64 - (l : Int)))).setCell ⟨g7, 4, none⟩ (.slice A21 n c21)) (ecells x) g7 (sgb x.nxt 0 fl (64 - (l : Int)) A21 n c21)) := Lib.hid (by simpa [zsg, sgb] using hP5)
  have HR5 : Hid (Row (((((w1.setCell ⟨g7, 0, none⟩ (.int .u32 x.nxt)).setCell ⟨g7, 1, none⟩ (.int .u32 0)).setCell ⟨g7, 2, none⟩ (.int .i64 fl)).setCell ⟨g7, 3, none⟩ (.int .i64 (64 - (l : Int)))).setCell ⟨g7, 4, none⟩ (.slice A21 n c21)) w.heap.size 5 1 (.slice A21 n c21) n (ds.map (Value.int .u8))) := Lib.hid hR5
  have hk := hP0.k.cell
  have hfk := hP0.k.free
  have hlk := hP0.k.lt
  dsimp only [zsg] at hk
  clear hP0 hP1 hP2 hP3 hP4 hP5 hR1 hR2 hR3 hR4 hR5 hr7 hr21 hcs7
  go_upto_region 2 with fail
  obtain ⟨W1, hWW1⟩ : ∃ W, W = ((((w1.setCell ⟨g7, 0, none⟩ (.int .u32 x.nxt)).setCell ⟨g7, 1, none⟩ (.int .u32 0)).setCell ⟨g7, 2, none⟩ (.int .i64 fl)).setCell ⟨g7, 3, none⟩ (.int .i64 (64 - (l : Int)))).setCell ⟨g7, 4, none⟩ (.slice A21 n c21) := ⟨_, rfl⟩
  rw [← hWW1]
  have HPW1 : Hid (SPos w B g 128 (.slice A0 xs.length c0) (.slice A' l c') xs ys W1 (ecells x) g7 (sgb x.nxt 0 fl (64 - (l : Int)) A21 n c21)) := Lib.hid (by rw [hWW1]; exact HP5.out)
  have HRW1 : Hid (Row W1 w.heap.size 5 1 (.slice A21 n c21) n (ds.map (Value.int .u8))) := Lib.hid (by rw [hWW1]; exact HR5.out)
  clear hWW1 hk hfk hlk
  have hc := HPW1.out.o.blk.cell
  have hk := HPW1.out.k.cell
  have hlt := HPW1.out.o.blk.lt
  have hlk := HPW1.out.k.lt
  have hfz := HPW1.out.o.blk.free
  have hfk := HPW1.out.k.free
  dsimp only [ecells, sgb] at hc hk
  have hgg : ¬ g7 = g := by have := HP0.out.l; omega
  clear HP5 HR5
  have HX : Hid (SPos w B g 128 (.slice A0 xs.length c0) (.slice A' l c') xs ys ((W1.setCell ⟨g7, 1, none⟩ (.int .u32 x.rcv)).setCell ⟨g7, 2, none⟩ (.int .i64 (fl + 2))) (ecells x) g7 (sgb x.nxt x.rcv (fl + 2) (64 - (l : Int)) A21 n c21)) := Lib.hid (by
    have hX := (HPW1.out.setS 1 (.int .u32 x.rcv)).setS 2 (.int .i64 (fl + 2))
    simpa [sgb] using hX)
  have HXR : Hid (Row ((W1.setCell ⟨g7, 1, none⟩ (.int .u32 x.rcv)).setCell ⟨g7, 2, none⟩ (.int .i64 (fl + 2))) w.heap.size 5 1 (.slice A21 n c21) n (ds.map (Value.int .u8))) := Lib.hid ((HPW1.out.setS 1 (.int .u32 x.rcv)).rowS (HPW1.out.rowS HRW1.out 1 (.int .u32 x.rcv)) 2 (.int .i64 (fl + 2)))
  have d1 : decide (3 ≤ x.st) = true := by simpa using hst
  go_upto_region 4 with fail
  obtain ⟨W2, hWW2⟩ : ∃ W, W = (W1.setCell ⟨g7, 1, none⟩ (.int .u32 x.rcv)).setCell ⟨g7, 2, none⟩ (.int .i64 (fl + 2)) := ⟨_, rfl⟩
  rw [← hWW2]
  have HPW2 : Hid (SPos w B g 128 (.slice A0 xs.length c0) (.slice A' l c') xs ys W2 (ecells x) g7 (sgb x.nxt x.rcv (fl + 2) (64 - (l : Int)) A21 n c21)) := Lib.hid (by rw [hWW2]; exact HX.out)
  have HRW2 : Hid (Row W2 w.heap.size 5 1 (.slice A21 n c21) n (ds.map (Value.int .u8))) := Lib.hid (by rw [hWW2]; exact HXR.out)
  clear hWW2 hc hk hlt hlk hfz hfk
  have hc := HPW2.out.o.blk.cell
  have hk := HPW2.out.k.cell
  have hlt := HPW2.out.o.blk.lt
  have hlk := HPW2.out.k.lt
  have hfz := HPW2.out.o.blk.free
  have hfk := HPW2.out.k.free
  dsimp only [ecells, sgb] at hc hk
  clear HX HXR
  have HK5 := Lib.hid (fun w5 (hb5 : Below W2.drew.heap.size W2.drew w5) => (show w5.cell? ⟨g, 2, none⟩ = some (.int .u32 x.nxt) ∧ (∀ j, w5.frozen? ⟨g, j, none⟩ = false) ∧ g < w5.heap.size from
    have h5 := (HPW2.out.grow (((Below.refl W2.heap.size W2).drew).trans hb5)).o
    ⟨h5.blk.cell 2, h5.blk.free, h5.blk.lt⟩))
  have HS5 := Lib.hid (fun w5 (hb5 : Below W2.drew.heap.size W2.drew w5) => (show SPos w B g 128 (.slice A0 xs.length c0) (.slice A' l c') xs ys (w5.setCell ⟨g, 2, none⟩ (.int .u32 (IntKind.u32.wrap (x.nxt + IntKind.u32.wrap sp)))) (ecells { x with nxt := (x.nxt + sp) % 4294967296 }) g7 (sgb x.nxt x.rcv (fl + 2) (64 - (l : Int)) A21 n c21) ∧ Row (w5.setCell ⟨g, 2, none⟩ (.int .u32 (IntKind.u32.wrap (x.nxt + IntKind.u32.wrap sp)))) w.heap.size 5 1 (.slice A21 n c21) n (ds.map (Value.int .u8)) from
    have hb : Below W2.heap.size W2 w5 := ((Below.refl W2.heap.size W2).drew).trans hb5
    have h5 := HPW2.out.grow hb
    ⟨h5.setE 2 (.int .u32 (IntKind.u32.wrap (x.nxt + IntKind.u32.wrap sp))) (by simp [ecells, wrap_rcv]), h5.rowE (HRW2.out.grow hb) 2 _⟩))
  have HSPX := Lib.hid (fun W => HSP.out (fl + 2) A21 c21 x.rcv W)
  rw [HSPE.out.2] at HSPX
  go_region_with (go_at_call 12; refine (HSPX.out _).mono ?_; rintro e w5 ⟨rfl, hb5⟩; obtain ⟨q1, q2, q3⟩ := HK5.out w5 hb5)
  all_goals
    have HS6 := Lib.hid (HS5.out w5 hb5)
    clear hb5 q1 q2 q3
    first
    | (obtain ⟨W6, hW6⟩ : ∃ W, W = w5.setCell ⟨g, 2, none⟩ (.int .u32 (IntKind.u32.wrap (x.nxt + IntKind.u32.wrap sp))) := ⟨_, rfl⟩
       have HP6 : Hid (SPos w B g 128 (.slice A0 xs.length c0) (.slice A' l c') xs ys W6 (ecells { x with nxt := (x.nxt + sp) % 4294967296 }) g7 (sgb x.nxt x.rcv (fl + 2) (64 - (l : Int)) A21 n c21) ∧ Row W6 w.heap.size 5 1 (.slice A21 n c21) n (ds.map (Value.int .u8))) := Lib.hid (by rw [hW6]; exact HS6.out)
       rw [← hW6]
       clear hW6 HS6)
    | (obtain ⟨W6, hW6⟩ : ∃ W, W = (w5.setCell ⟨g, 2, none⟩ (.int .u32 (IntKind.u32.wrap (x.nxt + IntKind.u32.wrap sp)))).drew := ⟨_, rfl⟩
       have HP6 : Hid (SPos w B g 128 (.slice A0 xs.length c0) (.slice A' l c') xs ys W6 (ecells { x with nxt := (x.nxt + sp) % 4294967296 }) g7 (sgb x.nxt x.rcv (fl + 2) (64 - (l : Int)) A21 n c21) ∧ Row W6 w.heap.size 5 1 (.slice A21 n c21) n (ds.map (Value.int .u8))) := Lib.hid (by rw [hW6]; exact ⟨HS6.out.1.drew, HS6.out.2.drew⟩)
       rw [← hW6]
       clear hW6 HS6)
    clear hc hk hlt hlk hfz hfk HK5 HS5
    have hc := HP6.out.1.o.blk.cell
    have hlt := HP6.out.1.o.blk.lt
    dsimp only [ecells] at hc
    go_wp2_with fail
    refine wp_region_near W6.heap.size (by kernel_rfl) (by kernel_rfl) ?_
    repeat (go_big_quiet_step (first | (go_at_call 10; exact Calls.near_same (HBT.out _))))
    refine wpQuiet_nil ?_
    intro w7 hb7
    have HP7 := Lib.hid (HP6.out.1.grow hb7)
    have HR7 := Lib.hid (HP6.out.2.grow hb7)
    clear hb7 hc hlt
    have hc := HP7.out.o.blk.cell
    have hk := HP7.out.k.cell
    have hz := HP7.out.z.cell
    have hlt := HP7.out.o.blk.lt
    have hlk := HP7.out.k.lt
    have hlz := HP7.out.z.lt
    have hfz := HP7.out.o.blk.free
    have hfk := HP7.out.k.free
    have hfw := HP7.out.z.free
    dsimp only [ecells, sgb, zsg] at hc hk hz
    have hn1 : ¬ g7 = w.heap.size := by have := HP7.out.l; omega
    have hn2 : ¬ g = w.heap.size := by omega
    cases bt with
    | true =>
      have hX8 := (HP7.out.setE (cs' := ecells { x with nxt := (x.nxt + sp) % 4294967296, top := (x.nxt + sp) % 4294967296 }) 3 (.int .u32 ((x.nxt + sp) % 4294967296)) (by simp [ecells])).setE (cs' := ecells { x with nxt := (x.nxt + sp) % 4294967296, top := (x.nxt + sp) % 4294967296, due := false }) 11 (.bool false) (by simp [ecells])
      have hR8 : Row ((w7.setCell ⟨g, 3, none⟩ (.int .u32 ((x.nxt + sp) % 4294967296))).setCell ⟨g, 11, none⟩ (.bool false)) w.heap.size 5 1 (.slice A21 n c21) n (ds.map (Value.int .u8)) := (HP7.out.setE (cs' := ecells { x with nxt := (x.nxt + sp) % 4294967296, top := (x.nxt + sp) % 4294967296 }) 3 (.int .u32 ((x.nxt + sp) % 4294967296)) (by simp [ecells])).rowE (HP7.out.rowE HR7.out 3 _) 11 _
      have HD : Hid (SayP w B g 128 (ecells X') (.slice A0 xs.length c0) (.slice A' l c') xs ys SG (.returned (sgc SG.seq SG.ack SG.flags SG.window A21 n c21)) _) := Lib.hid (SPos.done (sg := SG) (by rw [HSG.out, HNX.out]; exact hX8) (by rw [HSG.out]; exact HLN.out.symm) (by rw [HSG.out]; exact hR8))
      rw [HSG.out] at HD
      dsimp only at HD
      clear hX8 hR8
      go_wp2
      exact bodyPost_ret (v := sgc x.nxt x.rcv (fl + 2) (64 - (l : Int)) A21 n c21) (by simp [results, Try.results95, go_sem, sgc, hz, hlz, hn1, hn2]) rfl (by rw [HSG.out]; exact HD.out)
    | false =>
      have hX8 := HP7.out.setE (cs' := ecells { x with nxt := (x.nxt + sp) % 4294967296, due := false }) 11 (.bool false) (by simp [ecells])
      have hR8 : Row (w7.setCell ⟨g, 11, none⟩ (.bool false)) w.heap.size 5 1 (.slice A21 n c21) n (ds.map (Value.int .u8)) := HP7.out.rowE HR7.out 11 _
      have HD : Hid (SayP w B g 128 (ecells X') (.slice A0 xs.length c0) (.slice A' l c') xs ys SG (.returned (sgc SG.seq SG.ack SG.flags SG.window A21 n c21)) _) := Lib.hid (SPos.done (sg := SG) (by rw [HSG.out, HNX.out]; exact hX8) (by rw [HSG.out]; exact HLN.out.symm) (by rw [HSG.out]; exact hR8))
      rw [HSG.out] at HD
      dsimp only at HD
      clear hX8 hR8
      go_wp2
      exact bodyPost_ret (v := sgc x.nxt x.rcv (fl + 2) (64 - (l : Int)) A21 n c21) (by simp [results, Try.results95, go_sem, sgc, hz, hlz, hn1, hn2]) rfl (by rw [HSG.out]; exact HD.out)
set_option maxHeartbeats 4000000 in
set_option maxRecDepth 100000 in
theorem say95b (h : ESt w B g x vo vi xs ys) (fl : Int) (hfl : fl = 0 ∨ fl = 1 ∨ fl = 4) (A : Option Addr) (n c : Nat) (ds : List Int) (hd : RB w w.heap.size A n ds) (hn : n ≤ 32) (hy : ys.length ≤ 64) (hst : ¬ 3 ≤ x.st) (bt : Bool) (hbt : befB x.top ((x.nxt + (n + fl % 2 + fl / 4 % 2)) % 4294967296) = bt) :
    Calls Try.prog 95 #[.pointer (some ⟨g, 0, none⟩), .int .i64 fl, .slice A n c] w (SayP w B g 128 (ecells (sayX x (n + fl % 2 + fl / 4 % 2))) vo vi xs ys (sayE x ys.length fl ds)) := by
  have hfl2 : (Lit.int .i64 fl).wf = true := by rcases hfl with rfl | rfl | rfl <;> rfl
  have hor : bits .or .i64 fl 2 = fl + 2 := by rcases hfl with rfl | rfl | rfl <;> decide +kernel
  have hfr : 0 ≤ fl ∧ fl ≤ 7 := by omega
  have HLN := Lib.hid hd.len
  have hb0 : Below w.heap.size w (w.alloc (.cells zsg 25)) := (Below.refl _ _).alloc (Nat.le_refl _) _
  have hu := hb0.size
  have HB0 : Hid (Below (w.heap.size + 1) (w.alloc (.cells zsg 25)) (w.alloc (.cells zsg 25))) := Lib.hid (Below.refl _ _)
  have HTO : Hid (∀ w', Below (w.heap.size + 1) (w.alloc (.cells zsg 25)) w' → Below w.heap.size w w') := Lib.hid (fun w' hb => hb0.trans (hb.mono (by omega)))
  have HRB : Hid (∀ w', Below (w.heap.size + 1) (w.alloc (.cells zsg 25)) w' → RB w' w.heap.size A n ds) := Lib.hid (fun w' hb => hd.below' (HTO.out w' hb) (Nat.le_refl _))
  have HSP := Lib.hid (fun (f : Int) (A7 : Option Addr) (c7 : Nat) (a W) => span_any x.nxt a f (64 - (ys.length : Int)) A7 n c7 W (by unfold maxLen; omega))
  have HOB := Lib.hid h
  have HFP := Lib.hid (fun k hk => (Ob2.lt h k hk).2)
  obtain ⟨A0, c0, A', c', rfl, rfl, h1, h2, h3, h4⟩ := h.look
  have HK : Hid (∀ w', Below (w.heap.size + 1) (w.alloc (.cells zsg 25)) w' → w'.cell? ⟨g, 2, none⟩ = some (.int .u32 x.nxt) ∧ w'.cell? ⟨g, 7, none⟩ = some (.slice A' ys.length c')) := Lib.hid (fun w' hb => by
    have hc := (Ob2.grow HOB.out (HTO.out w' hb)).blk.cell
    exact ⟨hc 2, hc 7⟩)
  have hgl := (Ob2.blk h).lt
  have HNX : Hid (sayX x (n + fl % 2 + fl / 4 % 2) = { x with nxt := (x.nxt + (n + fl % 2 + fl / 4 % 2)) % 4294967296, top := if bt = true then (x.nxt + (n + fl % 2 + fl / 4 % 2)) % 4294967296 else x.top, due := false }) := Lib.hid (by unfold sayX; rw [hbt])
  have HBT := Lib.hid (fun W => before_any x.top ((x.nxt + (n + fl % 2 + fl / 4 % 2)) % 4294967296) W)
  rw [hbt] at HBT
  obtain ⟨sp, hsp⟩ : ∃ sp, (n : Int) + fl % 2 + fl / 4 % 2 = sp := ⟨_, rfl⟩
  have HSPE : Hid (spanI n fl = sp ∧ spanI n (fl + 2) = sp) := Lib.hid (by
    rw [spanI_small hn, spanI_small hn]
    unfold spanF
    omega)
  rw [hsp] at HNX HBT ⊢
  obtain ⟨SG, hSG⟩ : ∃ SG, sayE x ys.length fl ds = SG := ⟨_, rfl⟩
  obtain ⟨X', hX'⟩ : ∃ X', sayX x sp = X' := ⟨_, rfl⟩
  rw [hSG, hX']
  rw [hX'] at HNX
  have HSG : Hid (SG = ⟨x.nxt, 0, fl, 64 - ys.length, ds⟩) := Lib.hid (by rw [← hSG]; unfold sayE; rw [if_neg hst, if_neg hst])
  clear h hd hbt hb0 hu hsp hfl hSG hX'
  generalize hl0 : ys.length = l at *
  have HL0 := Lib.hid hl0
  clear hl0
  go_enter Try.func95, Try.ntmps95
  go_wp2_with fail
  refine wp_region_walk (fun w' => Below (w.heap.size + 1) (w.alloc (.cells zsg 25)) w' ∧ w.heap.size + 1 ≤ w'.heap.size) [[], [(8, 0)], [(9, 1)], [(10, 2)], [], [], [(13, 5)], [(14, 6)], [(15, 7)], [(16, 8)], [(17, 9)], [], [(19, 11)], [(11, 3), (12, 4), (18, 10), (20, 12)], []]
    [(8, 0), (9, 1), (10, 2), (11, 3), (12, 4), (13, 5), (14, 6), (15, 7), (16, 8), (17, 9), (18, 10), (19, 11), (20, 12), (21, 13), (7, 14)] (by kernel_rfl) (by kernel_rfl) (by kernel_rfl) ⟨HB0.out.drew, by have := HB0.out.size; simp⟩ ?_
  apply Flow.det_step
  · go_light
    intro w1 hC1
    simp only [Flow.fill, Flow.after, Flow.at_, List.nil_append, List.cons_append, List.getD_cons_zero, List.getD_cons_succ, det, forall_eq, List.setIfInBounds_toArray, List.set_cons_zero, List.set_cons_succ, List.drop, List.length]
    obtain ⟨hb1, hsz1⟩ := hC1
    obtain ⟨k2, k7⟩ := HK.out w1 hb1
    go_wp2
    exact Flow.post_det ⟨hb1, hsz1⟩ (Grow.refl _) rfl rfl
  apply Flow.det_step
  · go_light
    intro w1 hC1
    simp only [Flow.fill, Flow.after, Flow.at_, List.nil_append, List.cons_append, List.getD_cons_zero, List.getD_cons_succ, det, forall_eq, List.setIfInBounds_toArray, List.set_cons_zero, List.set_cons_succ, List.drop, List.length]
    obtain ⟨hb1, hsz1⟩ := hC1
    obtain ⟨k2, k7⟩ := HK.out w1 hb1
    go_wp2
    exact Flow.post_det ⟨hb1, hsz1⟩ (Grow.refl _) rfl rfl
  apply Flow.det_step
  · go_light
    intro w1 hC1
    simp only [Flow.fill, Flow.after, Flow.at_, List.nil_append, List.cons_append, List.getD_cons_zero, List.getD_cons_succ, det, forall_eq, List.setIfInBounds_toArray, List.set_cons_zero, List.set_cons_succ, List.drop, List.length]
    obtain ⟨hb1, hsz1⟩ := hC1
    obtain ⟨k2, k7⟩ := HK.out w1 hb1
    go_wp2
    exact Flow.post_det ⟨hb1, hsz1⟩ (Grow.refl _) rfl rfl
  apply Flow.det_step
  · go_light
    intro w1 hC1
    simp only [Flow.fill, Flow.after, Flow.at_, List.nil_append, List.cons_append, List.getD_cons_zero, List.getD_cons_succ, det, forall_eq, List.setIfInBounds_toArray, List.set_cons_zero, List.set_cons_succ, List.drop, List.length]
    obtain ⟨hb1, hsz1⟩ := hC1
    obtain ⟨k2, k7⟩ := HK.out w1 hb1
    go_wp2
    exact Flow.post_det ⟨hb1, hsz1⟩ (Grow.refl _) rfl rfl
  apply Flow.det_step
  · go_light
    intro w1 hC1
    simp only [Flow.fill, Flow.after, Flow.at_, List.nil_append, List.cons_append, List.getD_cons_zero, List.getD_cons_succ, det, forall_eq, List.setIfInBounds_toArray, List.set_cons_zero, List.set_cons_succ, List.drop, List.length]
    obtain ⟨hb1, hsz1⟩ := hC1
    obtain ⟨k2, k7⟩ := HK.out w1 hb1
    go_wp2
    exact Flow.post_det ⟨hb1, hsz1⟩ (Grow.refl _) rfl rfl
  apply Flow.det_step
  · go_light
    intro w1 hC1
    simp only [Flow.fill, Flow.after, Flow.at_, List.nil_append, List.cons_append, List.getD_cons_zero, List.getD_cons_succ, det, forall_eq, List.setIfInBounds_toArray, List.set_cons_zero, List.set_cons_succ, List.drop, List.length]
    obtain ⟨hb1, hsz1⟩ := hC1
    obtain ⟨k2, k7⟩ := HK.out w1 hb1
    go_wp2
    exact Flow.post_det ⟨hb1, hsz1⟩ (Grow.refl _) rfl rfl
  apply Flow.det_step
  · go_light
    intro w1 hC1
    simp only [Flow.fill, Flow.after, Flow.at_, List.nil_append, List.cons_append, List.getD_cons_zero, List.getD_cons_succ, det, forall_eq, List.setIfInBounds_toArray, List.set_cons_zero, List.set_cons_succ, List.drop, List.length]
    obtain ⟨hb1, hsz1⟩ := hC1
    obtain ⟨k2, k7⟩ := HK.out w1 hb1
    go_wp2
    exact Flow.post_det ⟨hb1, hsz1⟩ (Grow.refl _) rfl rfl
  apply Flow.det_step
  · go_light
    intro w1 hC1
    simp only [Flow.fill, Flow.after, Flow.at_, List.nil_append, List.cons_append, List.getD_cons_zero, List.getD_cons_succ, det, forall_eq, List.setIfInBounds_toArray, List.set_cons_zero, List.set_cons_succ, List.drop, List.length]
    obtain ⟨hb1, hsz1⟩ := hC1
    obtain ⟨k2, k7⟩ := HK.out w1 hb1
    go_wp2
    exact Flow.post_det ⟨hb1, hsz1⟩ (Grow.refl _) rfl rfl
  apply Flow.det_step
  · go_light
    intro w1 hC1
    simp only [Flow.fill, Flow.after, Flow.at_, List.nil_append, List.cons_append, List.getD_cons_zero, List.getD_cons_succ, det, forall_eq, List.setIfInBounds_toArray, List.set_cons_zero, List.set_cons_succ, List.drop, List.length]
    obtain ⟨hb1, hsz1⟩ := hC1
    obtain ⟨k2, k7⟩ := HK.out w1 hb1
    go_wp2
    exact Flow.post_det ⟨hb1, hsz1⟩ (Grow.refl _) rfl rfl
  apply Flow.det_step
  · go_light
    intro w1 hC1
    simp only [Flow.fill, Flow.after, Flow.at_, List.nil_append, List.cons_append, List.getD_cons_zero, List.getD_cons_succ, det, forall_eq, List.setIfInBounds_toArray, List.set_cons_zero, List.set_cons_succ, List.drop, List.length]
    obtain ⟨hb1, hsz1⟩ := hC1
    obtain ⟨k2, k7⟩ := HK.out w1 hb1
    go_wp2
    exact Flow.post_det ⟨hb1, hsz1⟩ (Grow.refl _) rfl rfl
  apply Flow.det_step
  · go_light
    intro w1 hC1
    simp only [Flow.fill, Flow.after, Flow.at_, List.nil_append, List.cons_append, List.getD_cons_zero, List.getD_cons_succ, det, forall_eq, List.setIfInBounds_toArray, List.set_cons_zero, List.set_cons_succ, List.drop, List.length]
    obtain ⟨hb1, hsz1⟩ := hC1
    obtain ⟨k2, k7⟩ := HK.out w1 hb1
    go_wp2
    exact Flow.post_det ⟨hb1, hsz1⟩ (Grow.refl _) rfl rfl
  apply Flow.det_step
  · go_light
    intro w1 hC1
    simp only [Flow.fill, Flow.after, Flow.at_, List.nil_append, List.cons_append, List.getD_cons_zero, List.getD_cons_succ, det, forall_eq, List.setIfInBounds_toArray, List.set_cons_zero, List.set_cons_succ, List.drop, List.length]
    obtain ⟨hb1, hsz1⟩ := hC1
    obtain ⟨k2, k7⟩ := HK.out w1 hb1
    go_wp2
    exact Flow.post_det ⟨hb1, hsz1⟩ (Grow.refl _) rfl rfl
  refine Flow.st_step (rowSt (w.heap.size + 1) n ds) ?_ ?_
  · go_light
    intro w1 hC1
    simp only [Flow.fill, Flow.after, Flow.at_, List.nil_append, List.cons_append, List.getD_cons_zero, List.getD_cons_succ, det, forall_eq, List.setIfInBounds_toArray, List.set_cons_zero, List.set_cons_succ, List.drop, List.length]
    obtain ⟨hb1, hsz1⟩ := hC1
    obtain ⟨k2, k7⟩ := HK.out w1 hb1
    go_wp2_with (go_at_call 90; refine (bclone_any _ _ _ ds _ _ (HRB.out w1 hb1) (Nat.le_of_lt hsz1) (by omega)).mono ?_; rintro e w4 ⟨v, rfl, hrow4, hg2⟩)
    exact Flow.post_st ⟨hb1.trans (hg2.mono hsz1), Nat.le_trans hsz1 hg2.size⟩ hg2 rfl rfl (hrow4.base_le hsz1)
  refine Flow.st_step (⟨fun v W => ∃ A cc, v = .agg #[.int .u32 x.nxt, .int .u32 0, .int .i64 fl, .int .i64 (64 - (l : Int)), .slice A n cc] ∧ Row W (w.heap.size + 1) 5 1 (.slice A n cc) n (ds.map (Value.int .u8)), fun v W W' hh hg => by obtain ⟨A, cc, h1, h2⟩ := hh; exact ⟨A, cc, h1, h2.grow hg⟩⟩) ?_ ?_
  · go_light
    intro w1 hC1
    simp only [Flow.fill, Flow.after, Flow.at_, List.nil_append, List.cons_append, List.getD_cons_zero, List.getD_cons_succ, det, forall_eq, List.setIfInBounds_toArray, List.set_cons_zero, List.set_cons_succ, List.drop, List.length]
    rintro v20 hv20
    obtain ⟨hb1, hsz1⟩ := hC1
    obtain ⟨k2, k7⟩ := HK.out w1 hb1
    have hv20' : Row w1 (w.heap.size + 1) 5 1 v20 n (ds.map (Value.int .u8)) := hv20
    obtain ⟨A20, c20, rfl, -, -⟩ := hv20'.shape
    go_wp2
    exact Flow.post_st ⟨hb1, hsz1⟩ (Grow.refl _) rfl rfl ⟨_, _, rfl, hv20'⟩
  refine Flow.st_step (⟨fun v W => ∃ g7, v = .pointer (some ⟨g7, 0, none⟩) ∧ w.heap.size + 1 ≤ g7 ∧ g7 < W.heap.size ∧ Blk W g7 zsg 25, fun v W W' hh hg => by obtain ⟨g7, h1, h2, h3, h4⟩ := hh; exact ⟨g7, h1, h2, Nat.lt_of_lt_of_le h3 hg.size, h4.fr (Fr.of_grow hg) (fun h => h)⟩⟩) ?_ ?_
  · go_light
    intro w1 hC1
    simp only [Flow.fill, Flow.after, Flow.at_, List.nil_append, List.cons_append, List.getD_cons_zero, List.getD_cons_succ, det, forall_eq, List.setIfInBounds_toArray, List.set_cons_zero, List.set_cons_succ, List.drop, List.length]
    obtain ⟨hb1, hsz1⟩ := hC1
    obtain ⟨k2, k7⟩ := HK.out w1 hb1
    go_wp2
    exact Flow.post_st ⟨hb1.alloc hsz1 _, by simp; omega⟩ (Grow.alloc _ _) rfl rfl ⟨_, rfl, hsz1, by simp, heap_alloc_new _ _⟩
  intro w1 hC1
  simp only [Flow.fill, Flow.after, Flow.at_, List.nil_append, List.cons_append, List.getD_cons_zero, List.getD_cons_succ, det, forall_eq, List.setIfInBounds_toArray, List.set_cons_zero, List.set_cons_succ, List.drop, List.length]
  rintro _ - _ ⟨A21, c21, rfl, hr21⟩ _ ⟨g7, rfl, hg7, hg7l, hcs7⟩
  obtain ⟨hb1, hsz1⟩ := hC1
  have hr70 : Row w1 (w.heap.size + 1) 5 1 (.slice A21 n c21) n (ds.map (Value.int .u8)) := hr21
  have hr7 := hr70.base_le (base' := w.heap.size) (Nat.le_succ _)
  clear hr70
  have hSP0 : SPos w B g 128 (.slice A0 xs.length c0) (.slice A' l c') xs ys w1 (ecells x) g7 zsg :=
    ⟨Ob2.grow HOB.out (HTO.out w1 hb1), (Fr.of_grow (HTO.out w1 hb1)).mono (fun _ _ h => h.elim), Blk.fr (show Blk (w.alloc (.cells zsg 25)) w.heap.size zsg 25 from heap_alloc_new w _) (S := fun k => w.heap.size + 1 ≤ k) (Fr.of_below hb1) (by omega), hcs7, by omega, HFP.out⟩
  have HP0 := Lib.hid hSP0
  clear hSP0
  have hP0 := HP0.out
  have hP1 := hP0.setS 0 (.int .u32 x.nxt)
  have hR1 := hP0.rowS hr7 0 (.int .u32 x.nxt)
  have hP2 := hP1.setS 1 (.int .u32 0)
  have hR2 := hP1.rowS hR1 1 (.int .u32 0)
  have hP3 := hP2.setS 2 (.int .i64 fl)
  have hR3 := hP2.rowS hR2 2 (.int .i64 fl)
  have hP4 := hP3.setS 3 (.int .i64 (64 - (l : Int)))
  have hR4 := hP3.rowS hR3 3 (.int .i64 (64 - (l : Int)))
  have hP5 := hP4.setS 4 (.slice A21 n c21)
  have hR5 := hP4.rowS hR4 4 (.slice A21 n c21)
  have HP5 : Hid (SPos w B g 128 (.slice A0 xs.length c0) (.slice A' l c') xs ys (((((w1.setCell ⟨g7, 0, none⟩ (.int .u32 x.nxt)).setCell ⟨g7, 1, none⟩ (.int .u32 0)).setCell ⟨g7, 2, none⟩ (.int .i64 fl)).setCell ⟨g7, 3, none⟩ (.int .i64 (64 - (l : Int)))).setCell ⟨g7, 4, none⟩ (.slice A21 n c21)) (ecells x) g7 (sgb x.nxt 0 fl (64 - (l : Int)) A21 n c21)) := Lib.hid (by simpa [zsg, sgb] using hP5)
  have HR5 : Hid (Row (((((w1.setCell ⟨g7, 0, none⟩ (.int .u32 x.nxt)).setCell ⟨g7, 1, none⟩ (.int .u32 0)).setCell ⟨g7, 2, none⟩ (.int .i64 fl)).setCell ⟨g7, 3, none⟩ (.int .i64 (64 - (l : Int)))).setCell ⟨g7, 4, none⟩ (.slice A21 n c21)) w.heap.size 5 1 (.slice A21 n c21) n (ds.map (Value.int .u8))) := Lib.hid hR5
  have hk := hP0.k.cell
  have hfk := hP0.k.free
  have hlk := hP0.k.lt
  dsimp only [zsg] at hk
  clear hP0 hP1 hP2 hP3 hP4 hP5 hR1 hR2 hR3 hR4 hR5 hr7 hr21 hcs7
  go_upto_region 2 with fail
  obtain ⟨W1, hWW1⟩ : ∃ W, W = ((((w1.setCell ⟨g7, 0, none⟩ (.int .u32 x.nxt)).setCell ⟨g7, 1, none⟩ (.int .u32 0)).setCell ⟨g7, 2, none⟩ (.int .i64 fl)).setCell ⟨g7, 3, none⟩ (.int .i64 (64 - (l : Int)))).setCell ⟨g7, 4, none⟩ (.slice A21 n c21) := ⟨_, rfl⟩
  rw [← hWW1]
  have HPW1 : Hid (SPos w B g 128 (.slice A0 xs.length c0) (.slice A' l c') xs ys W1 (ecells x) g7 (sgb x.nxt 0 fl (64 - (l : Int)) A21 n c21)) := Lib.hid (by rw [hWW1]; exact HP5.out)
  have HRW1 : Hid (Row W1 w.heap.size 5 1 (.slice A21 n c21) n (ds.map (Value.int .u8))) := Lib.hid (by rw [hWW1]; exact HR5.out)
  clear hWW1 hk hfk hlk
  have hc := HPW1.out.o.blk.cell
  have hk := HPW1.out.k.cell
  have hlt := HPW1.out.o.blk.lt
  have hlk := HPW1.out.k.lt
  have hfz := HPW1.out.o.blk.free
  have hfk := HPW1.out.k.free
  dsimp only [ecells, sgb] at hc hk
  have hgg : ¬ g7 = g := by have := HP0.out.l; omega
  clear HP5 HR5
  have d1 : decide (3 ≤ x.st) = false := by simpa using hst
  go_upto_region 4 with fail
  obtain ⟨W2, hWW2⟩ : ∃ W, W = W1 := ⟨_, rfl⟩
  rw [← hWW2]
  have HPW2 : Hid (SPos w B g 128 (.slice A0 xs.length c0) (.slice A' l c') xs ys W2 (ecells x) g7 (sgb x.nxt 0 fl (64 - (l : Int)) A21 n c21)) := Lib.hid (by rw [hWW2]; exact HPW1.out)
  have HRW2 : Hid (Row W2 w.heap.size 5 1 (.slice A21 n c21) n (ds.map (Value.int .u8))) := Lib.hid (by rw [hWW2]; exact HRW1.out)
  clear hWW2 hc hk hlt hlk hfz hfk
  have hc := HPW2.out.o.blk.cell
  have hk := HPW2.out.k.cell
  have hlt := HPW2.out.o.blk.lt
  have hlk := HPW2.out.k.lt
  have hfz := HPW2.out.o.blk.free
  have hfk := HPW2.out.k.free
  dsimp only [ecells, sgb] at hc hk
  have HK5 := Lib.hid (fun w5 (hb5 : Below W2.drew.heap.size W2.drew w5) => (show w5.cell? ⟨g, 2, none⟩ = some (.int .u32 x.nxt) ∧ (∀ j, w5.frozen? ⟨g, j, none⟩ = false) ∧ g < w5.heap.size from
    have h5 := (HPW2.out.grow (((Below.refl W2.heap.size W2).drew).trans hb5)).o
    ⟨h5.blk.cell 2, h5.blk.free, h5.blk.lt⟩))
  have HS5 := Lib.hid (fun w5 (hb5 : Below W2.drew.heap.size W2.drew w5) => (show SPos w B g 128 (.slice A0 xs.length c0) (.slice A' l c') xs ys (w5.setCell ⟨g, 2, none⟩ (.int .u32 (IntKind.u32.wrap (x.nxt + IntKind.u32.wrap sp)))) (ecells { x with nxt := (x.nxt + sp) % 4294967296 }) g7 (sgb x.nxt 0 fl (64 - (l : Int)) A21 n c21) ∧ Row (w5.setCell ⟨g, 2, none⟩ (.int .u32 (IntKind.u32.wrap (x.nxt + IntKind.u32.wrap sp)))) w.heap.size 5 1 (.slice A21 n c21) n (ds.map (Value.int .u8)) from
    have hb : Below W2.heap.size W2 w5 := ((Below.refl W2.heap.size W2).drew).trans hb5
    have h5 := HPW2.out.grow hb
    ⟨h5.setE 2 (.int .u32 (IntKind.u32.wrap (x.nxt + IntKind.u32.wrap sp))) (by simp [ecells, wrap_rcv]), h5.rowE (HRW2.out.grow hb) 2 _⟩))
  have HSPX := Lib.hid (fun W => HSP.out fl A21 c21 0 W)
  rw [HSPE.out.1] at HSPX
  go_region_with (go_at_call 12; refine (HSPX.out _).mono ?_; rintro e w5 ⟨rfl, hb5⟩; obtain ⟨q1, q2, q3⟩ := HK5.out w5 hb5)
  all_goals
    have HS6 := Lib.hid (HS5.out w5 hb5)
    clear hb5 q1 q2 q3
    first
    | (obtain ⟨W6, hW6⟩ : ∃ W, W = w5.setCell ⟨g, 2, none⟩ (.int .u32 (IntKind.u32.wrap (x.nxt + IntKind.u32.wrap sp))) := ⟨_, rfl⟩
       have HP6 : Hid (SPos w B g 128 (.slice A0 xs.length c0) (.slice A' l c') xs ys W6 (ecells { x with nxt := (x.nxt + sp) % 4294967296 }) g7 (sgb x.nxt 0 fl (64 - (l : Int)) A21 n c21) ∧ Row W6 w.heap.size 5 1 (.slice A21 n c21) n (ds.map (Value.int .u8))) := Lib.hid (by rw [hW6]; exact HS6.out)
       rw [← hW6]
       clear hW6 HS6)
    | (obtain ⟨W6, hW6⟩ : ∃ W, W = (w5.setCell ⟨g, 2, none⟩ (.int .u32 (IntKind.u32.wrap (x.nxt + IntKind.u32.wrap sp)))).drew := ⟨_, rfl⟩
       have HP6 : Hid (SPos w B g 128 (.slice A0 xs.length c0) (.slice A' l c') xs ys W6 (ecells { x with nxt := (x.nxt + sp) % 4294967296 }) g7 (sgb x.nxt 0 fl (64 - (l : Int)) A21 n c21) ∧ Row W6 w.heap.size 5 1 (.slice A21 n c21) n (ds.map (Value.int .u8))) := Lib.hid (by rw [hW6]; exact ⟨HS6.out.1.drew, HS6.out.2.drew⟩)
       rw [← hW6]
       clear hW6 HS6)
    clear hc hk hlt hlk hfz hfk HK5 HS5
    have hc := HP6.out.1.o.blk.cell
    have hlt := HP6.out.1.o.blk.lt
    dsimp only [ecells] at hc
    go_wp2_with fail
    refine wp_region_near W6.heap.size (by kernel_rfl) (by kernel_rfl) ?_
    repeat (go_big_quiet_step (first | (go_at_call 10; exact Calls.near_same (HBT.out _))))
    refine wpQuiet_nil ?_
    intro w7 hb7
    have HP7 := Lib.hid (HP6.out.1.grow hb7)
    have HR7 := Lib.hid (HP6.out.2.grow hb7)
    clear hb7 hc hlt
    have hc := HP7.out.o.blk.cell
    have hk := HP7.out.k.cell
    have hz := HP7.out.z.cell
    have hlt := HP7.out.o.blk.lt
    have hlk := HP7.out.k.lt
    have hlz := HP7.out.z.lt
    have hfz := HP7.out.o.blk.free
    have hfk := HP7.out.k.free
    have hfw := HP7.out.z.free
    dsimp only [ecells, sgb, zsg] at hc hk hz
    have hn1 : ¬ g7 = w.heap.size := by have := HP7.out.l; omega
    have hn2 : ¬ g = w.heap.size := by omega
    cases bt with
    | true =>
      have hX8 := (HP7.out.setE (cs' := ecells { x with nxt := (x.nxt + sp) % 4294967296, top := (x.nxt + sp) % 4294967296 }) 3 (.int .u32 ((x.nxt + sp) % 4294967296)) (by simp [ecells])).setE (cs' := ecells { x with nxt := (x.nxt + sp) % 4294967296, top := (x.nxt + sp) % 4294967296, due := false }) 11 (.bool false) (by simp [ecells])
      have hR8 : Row ((w7.setCell ⟨g, 3, none⟩ (.int .u32 ((x.nxt + sp) % 4294967296))).setCell ⟨g, 11, none⟩ (.bool false)) w.heap.size 5 1 (.slice A21 n c21) n (ds.map (Value.int .u8)) := (HP7.out.setE (cs' := ecells { x with nxt := (x.nxt + sp) % 4294967296, top := (x.nxt + sp) % 4294967296 }) 3 (.int .u32 ((x.nxt + sp) % 4294967296)) (by simp [ecells])).rowE (HP7.out.rowE HR7.out 3 _) 11 _
      have HD : Hid (SayP w B g 128 (ecells X') (.slice A0 xs.length c0) (.slice A' l c') xs ys SG (.returned (sgc SG.seq SG.ack SG.flags SG.window A21 n c21)) _) := Lib.hid (SPos.done (sg := SG) (by rw [HSG.out, HNX.out]; exact hX8) (by rw [HSG.out]; exact HLN.out.symm) (by rw [HSG.out]; exact hR8))
      rw [HSG.out] at HD
      dsimp only at HD
      clear hX8 hR8
      go_wp2
      exact bodyPost_ret (v := sgc x.nxt 0 fl (64 - (l : Int)) A21 n c21) (by simp [results, Try.results95, go_sem, sgc, hz, hlz, hn1, hn2]) rfl (by rw [HSG.out]; exact HD.out)
    | false =>
      have hX8 := HP7.out.setE (cs' := ecells { x with nxt := (x.nxt + sp) % 4294967296, due := false }) 11 (.bool false) (by simp [ecells])
      have hR8 : Row (w7.setCell ⟨g, 11, none⟩ (.bool false)) w.heap.size 5 1 (.slice A21 n c21) n (ds.map (Value.int .u8)) := HP7.out.rowE HR7.out 11 _
      have HD : Hid (SayP w B g 128 (ecells X') (.slice A0 xs.length c0) (.slice A' l c') xs ys SG (.returned (sgc SG.seq SG.ack SG.flags SG.window A21 n c21)) _) := Lib.hid (SPos.done (sg := SG) (by rw [HSG.out, HNX.out]; exact hX8) (by rw [HSG.out]; exact HLN.out.symm) (by rw [HSG.out]; exact hR8))
      rw [HSG.out] at HD
      dsimp only at HD
      clear hX8 hR8
      go_wp2
      exact bodyPost_ret (v := sgc x.nxt 0 fl (64 - (l : Int)) A21 n c21) (by simp [results, Try.results95, go_sem, sgc, hz, hlz, hn1, hn2]) rfl (by rw [HSG.out]; exact HD.out)
theorem say95 (h : ESt w B g x vo vi xs ys) (fl : Int) (hfl : fl = 0 ∨ fl = 1 ∨ fl = 4) (A : Option Addr) (n c : Nat) (ds : List Int) (hd : RB w w.heap.size A n ds) (hn : n ≤ 32) (hy : ys.length ≤ 64) :
    Calls Try.prog 95 #[.pointer (some ⟨g, 0, none⟩), .int .i64 fl, .slice A n c] w (SayP w B g 128 (ecells (sayX x (n + fl % 2 + fl / 4 % 2))) vo vi xs ys (sayE x ys.length fl ds)) := by
  by_cases hst : 3 ≤ x.st
  · exact say95a h fl hfl A n c ds hd hn hy hst _ rfl
  · exact say95b h fl hfl A n c ds hd hn hy hst _ rfl
end
end Go.Proofs.Ythlhjaacjhlkhaa
