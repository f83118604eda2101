/- Contract of obj.Decode. -/
import Derived.Test.YtgmpcdonmlhohaaOrF
namespace Go.Proofs.Ytgmpcdonmlhohaa
open Go.RowKit
set_option maxHeartbeats 400000
set_option linter.unusedVariables false
set_option linter.unusedSimpArgs false
theorem run43 (args : Array Value) (w : World) : (callFunc 43 args).run Try.prog w = .ok (.enter 43 args) w := by
  have h := Try.func43
  simp [callFunc, go_sem, h, Try.f43]
theorem run26 (args : Array Value) (w : World) : (callFunc 26 args).run Try.prog w = .ok (.enter 26 args) w := by
  have h := Try.func26
  simp [callFunc, go_sem, h, Try.f26]
theorem own_nil (w : World) (base e size : Nat) : OwnS w base e size 0 (.slice none 0 0) [] := ⟨none, 0, rfl, Row.nil _ _ _ _⟩
/-- The reader and the object, new. -/
theorem ds_new {W : World} {B n c : Nat} {A : Option Addr} {xs : List Int} (hr : RB W B A n xs) (hnc : n ≤ c) (hcm : c ≤ maxLen) (hB : B ≤ W.heap.size) :
    DS (((W.alloc (.cells #[.slice A n c, .bool false] 95)).alloc (.cells #[.pointer (some ⟨W.heap.size, 0, none⟩)] 93)).alloc (.cells zeros38 38)) B (W.heap.size + 1) W.heap.size (W.heap.size + 1 + 1) (some xs) (.slice none 0 0) (.slice none 0 0) (.slice none 0 0) (.slice none 0 0) [] [] [] [] := by
  have hb : Below W.heap.size W (((W.alloc (.cells #[.slice A n c, .bool false] 95)).alloc (.cells #[.pointer (some ⟨W.heap.size, 0, none⟩)] 93)).alloc (.cells zeros38 38)) := (((Below.refl _ _).alloc (Nat.le_refl _) _).alloc (by simp) _).alloc (by simp; omega) _
  refine ⟨⟨A, n, c, false, ((Blk.new W _ 95).alloc _).alloc _, rfl, hr.below' hb hB, hnc, hcm⟩, ?_, ?_, own_nil _ _ _ _, own_nil _ _ _ _, own_nil _ _ _ _, own_nil _ _ _ _, by omega, by omega, by omega, fun x hx => by simp at hx, fun x hx => by simp at hx, fun x hx => by simp at hx, fun x hx => by simp at hx⟩
  · have := (Blk.new (W.alloc (.cells #[.slice A n c, .bool false] 95)) #[.pointer (some ⟨W.heap.size, 0, none⟩)] 93).alloc (.cells zeros38 38)
    simpa using this
  · have := Blk.new ((W.alloc (.cells #[.slice A n c, .bool false] 95)).alloc (.cells #[.pointer (some ⟨W.heap.size, 0, none⟩)] 93)) zeros38 38
    simpa [zeros38] using this
def TakeF (B q g ob : Nat) (s : Rst) (v0 v1 vN v3 : Value) (ws bs : List Int) (ns : List Nm) (ds : List Nd) (xs : List Int) (w : World) (v : Value) (w' : World) : Prop :=
  ∃ A m c, v = .slice A m c ∧ RB w' B A m xs ∧ DS w' B q g ob s v0 v1 vN v3 ws bs ns ds ∧ Below B w w'
theorem take_f {W : World} {B q g ob : Nat} {s s' : Rst} {v0 v1 vN v3 : Value} {ws bs : List Int} {ns : List Nm} {ds : List Nd} {xs : List Int} (h : DS W B q g ob s v0 v1 vN v3 ws bs ns ds) (k : Nat) (hk : k ≤ 65535) (e : bytesR k s = (xs, s')) :
    Calls Try.prog 43 #[.pointer (some ⟨g, 0, none⟩), .int .i64 k] W fun e w' => ∃ v, e = .returned v ∧ TakeF B q g ob s' v0 v1 vN v3 ws bs ns ds xs W v w' :=
  (take_any g B s k W h.rd h.lg hk).mono fun e' w' ⟨A, m, c, he, hr, hd, hf⟩ => by
    rw [e] at hr hd
    exact ⟨_, he, A, m, c, rfl, hr, h.step hd hf, hf.below h.low (fun k e => e ▸ h.lg)⟩
theorem take_len {w : World} {B m k : Nat} {A : Option Addr} {xs : List Int} {s s' : Rst} (h : RB w B A m xs) (e : bytesR k s = (xs, s')) (hk : k ≤ 65535) : m ≤ 140737488355328 := by
  have := bytesR_len (n := k) s
  rw [e] at this
  have := h.len
  dsimp only at *
  omega
def CloneF (n : Nat) (xs : List Int) (w : World) (v : Value) (w' : World) : Prop := OwnS w' w.heap.size 5 1 n v (xs.map (Value.int .u8)) ∧ Below w.heap.size w w'
theorem clone_f (A : Option Addr) (n c : Nat) (xs : List Int) (w : World) (B : Nat) (h : RB w B A n xs) (hB : B ≤ w.heap.size) (hn : n ≤ 140737488355328) : Calls Try.prog 26 #[.slice A n c] w fun e w' => ∃ v, e = .returned v ∧ CloneF n xs w v w' :=
  (cloneB_any A n c xs w B h hB hn).mono fun e w' ⟨v, he, ho, hb⟩ => ⟨v, he, ho, hb⟩
theorem put1_done {w5 w6 w7 w8 w9 : World} {B q g ob m : Nat} {s : Rst} {v0 v1 vN v3 v9 : Value} {ws bs xs : List Int} {ns : List Nm} {ds : List Nd} {A : Option Addr} (h6 : Below B w5 w6) (h7 : Below B w6 w7) (h8 : Below B w7 w8) (hd : DS w8 B q g ob s v0 v1 vN v3 ws bs ns ds) (hr : RB w8 B A m xs) (ho : OwnS w9 w8.heap.size 5 1 m v9 (xs.map (Value.int .u8))) (hb : Below w8.heap.size w8 w9) :
    DS (w9.setCell ⟨ob, 1, none⟩ v9) B q g ob s v0 v9 vN v3 ws xs ns ds ∧ Below B w5 (w9.setCell ⟨ob, 1, none⟩ v9) := by
  have hl := hr.len
  subst hl
  obtain ⟨r1, r2⟩ := hd.put1 (v' := v9) (zs := xs) ((Fr.of_grow hb).mono (fun _ _ h => h.elim)) (ho.base hd.low) hr.2
  exact ⟨r1, ((h6.trans h7).trans h8).trans r2⟩
theorem parts_eq {s s1 s2 s3 s4 s5 : Rst} {ws bs : List Int} {ns : List Nm} {ds : List Nd} {k : Int} (h1 : manyR wordR s = (ws, s1)) (h2 : halfR s1 = (k, s2)) (h3 : bytesR k s2 = (bs, s3)) (h4 : manyR nmR s3 = (ns, s4)) (h5 : manyR ndR s4 = (ds, s5)) :
    parts s = ⟨ws, bs, ns, ds, s5⟩ := by
  have e1 : st1 s = s1 := by unfold st1; rw [h1]
  have e2 : st2 s = s2 := by unfold st2; rw [e1, h2]
  have e3 : st3 s = s3 := by unfold st3; rw [e1, e2, h2]; dsimp only; rw [h3]
  have e4 : st4 s = s4 := by unfold st4; rw [e3, h4]
  have e5 : st5 s = s5 := by unfold st5; rw [e4, h5]
  unfold parts
  rw [h1, e1, e2, h2, e3, h4, e4, h5, e5]
  dsimp only
  rw [h3]
theorem ds_full {W : World} {B q g ob n0 n1 n2 n3 c0 c1 c2 c3 : Nat} {A0 A1 A2 A3 : Option Addr} {s : Rst} {ws bs : List Int} {ns : List Nm} {ds : List Nd} (h : DS W B q g ob s (.slice A0 n0 c0) (.slice A1 n1 c1) (.slice A2 n2 c2) (.slice A3 n3 c3) ws bs ns ds)
    (l0 : ws.length ≤ 65535) (l1 : bs.length ≤ 65535) (l2 : ns.length ≤ 65535) (l3 : ds.length ≤ 65535) {W' : World} {S : Nat → Prop} (hf : Fr S W W') (hS : ∀ k, S k → k < B) :
    Ob.Full ⟨A0, n0, c0, A1, n1, c1, A2, n2, c2, A3, n3, c3, ns, ds⟩ W' W'.heap.size ws bs ∧ n0 = ws.length ∧ n1 = bs.length ∧ n2 = ns.length ∧ n3 = ds.length := by
  have k0 : n0 = ws.length := by obtain ⟨_, _, e, _⟩ := h.o0; injection e
  have k1 : n1 = bs.length := by obtain ⟨_, _, e, _⟩ := h.o1; injection e
  have k2 : n2 = ns.length := by obtain ⟨_, _, e, _⟩ := h.oN; injection e
  have k3 : n3 = ds.length := by obtain ⟨_, _, e, _⟩ := h.o3; injection e
  subst k0 k1 k2 k3
  have keep : ∀ {e size n : Nat} {v : Value} {xs : List Value}, OwnS W B e size n v xs → OwnS W' B e size n v xs := fun ho => ho.fr hf (fun k hk hs => by have := hS k hs; have := (ho.row.lt k hk).1; omega)
  exact ⟨⟨⟨⟨⟨(keep h.oN).at_, rfl⟩, h.fn⟩, ⟨⟨(keep h.o3).at_, rfl⟩, h.fd⟩, by dsimp only; omega, by dsimp only; omega, by dsimp only; omega, by dsimp only; omega⟩, (keep h.o0).at_, ⟨(keep h.o1).at_, h.fb⟩⟩, rfl, rfl, rfl, rfl⟩
theorem obj_zero' {s : Rst} {ws bs : List Int} {ns : List Nm} {ds : List Nd} {st : Rst} (h : errOb (parts s) = 0) (e : parts s = ⟨ws, bs, ns, ds, st⟩) : ObFit ⟨none, ws.length, 0, none, bs.length, 0, none, ns.length, 0, none, ds.length, 0, ns, ds⟩ := by
  rw [e] at h
  exact obj_zero _ h
theorem decP_good {w w' : World} {xs ws bs : List Int} {ns : List Nm} {ds : List Nd} {st : Rst} {X0 X1 X2 X3 : Option Addr} {n0 n1 n2 n3 c0 c1 c2 c3 : Nat} (h : decErr 3 21 xs = 0) (e : parts (some (xs.drop 3)) = ⟨ws, bs, ns, ds, st⟩) (hb : Below w.heap.size w w')
    (hF : Ob.Full ⟨X0, n0, c0, X1, n1, c1, X2, n2, c2, X3, n3, c3, ns, ds⟩ w' w'.heap.size ws bs) : DecP w xs (.returned (.tuple #[.agg #[.slice X0 n0 c0, .slice X1 n1 c1, .slice X2 n2 c2, .slice X3 n3 c3], .int .i64 0])) w' := by
  unfold DecP
  rw [h, e]
  exact ⟨⟨X0, n0, c0, X1, n1, c1, X2, n2, c2, X3, n3, c3, ns, ds⟩, rfl, hF, rfl, rfl, hb⟩
set_option maxHeartbeats 2000000 in
set_option maxRecDepth 100000 in
theorem decode_any (A : Option Addr) (n c : Nat) (xs : List Int) (w : World) (h : RB w w.heap.size A n xs) (hnc : n ≤ c) (hcm : c ≤ maxLen) :
    Calls Try.prog 22 #[.slice A n c] w (DecP w xs) := by
  have hmf : ∀ fn first cap w, (Instr.makeFunc fn first cap).run Try.prog w = .ok (.func fn first cap) w := fun _ _ _ _ => rfl
  have hcv := Lib.run_convert_bytes_const (P := Try.prog) (w.alloc (.cells #[.slice none 0 0, .slice none 0 0, .slice none 0 0, .slice none 0 0] 38)) 35 5 #[.int .u8 82, .int .u8 79, .int .u8 49] 3 3 Try.underlying35 Try.underlying5
  rw [show (w.alloc (.cells #[.slice none 0 0, .slice none 0 0, .slice none 0 0, .slice none 0 0] 38)).heap.size = w.heap.size + 1 by simp] at hcv
  have HL := Lib.hid h.len
  have hb0 : Below w.heap.size w (w.alloc (.cells #[.slice none 0 0, .slice none 0 0, .slice none 0 0, .slice none 0 0] 38)) := (Below.refl _ _).alloc (Nat.le_refl _) _
  have hb1 := hb0.alloc hb0.size (.cells #[.int .u8 82, .int .u8 79, .int .u8 49] 5 (3, 4))
  have hk1 : RB ((w.alloc (.cells #[.slice none 0 0, .slice none 0 0, .slice none 0 0, .slice none 0 0] 38)).alloc (.cells #[.int .u8 82, .int .u8 79, .int .u8 49] 5 (3, 4))) (w.heap.size + 2) (some ⟨w.heap.size + 1, 0, none⟩) 3 [82, 79, 49] := by
    refine ⟨⟨rfl, fun _ => ⟨w.heap.size + 1, 0, rfl, by omega, fun j u hu => ?_⟩⟩, fun x hx => by simp at hx; omega⟩
    have h1 : ((w.alloc (.cells #[.slice none 0 0, .slice none 0 0, .slice none 0 0, .slice none 0 0] 38)).alloc (.cells #[.int .u8 82, .int .u8 79, .int .u8 49] 5 (3, 4))).heap[w.heap.size + 1]? = some (.cells #[.int .u8 82, .int .u8 79, .int .u8 49] 5 (3, 4)) := by
      have := heap_alloc_new (w.alloc (.cells #[.slice none 0 0, .slice none 0 0, .slice none 0 0, .slice none 0 0] 38)) (.cells #[.int .u8 82, .int .u8 79, .int .u8 49] 5 (3, 4))
      simpa using this
    have h3 := cell_of_row _ (w.heap.size + 1) (0 + j) _ _ _ h1
    rw [h3, Nat.zero_add]
    simpa using hu
  have hz1 : Blk ((w.alloc (.cells #[.slice none 0 0, .slice none 0 0, .slice none 0 0, .slice none 0 0] 38)).alloc (.cells #[.int .u8 82, .int .u8 79, .int .u8 49] 5 (3, 4))) w.heap.size #[.slice none 0 0, .slice none 0 0, .slice none 0 0, .slice none 0 0] 38 := (Blk.new w #[.slice none 0 0, .slice none 0 0, .slice none 0 0, .slice none 0 0] 38).alloc _
  have hr1 := h.below' hb1 (Nat.le_refl _)
  have hs1 : w.heap.size + 2 ≤ ((w.alloc (.cells #[.slice none 0 0, .slice none 0 0, .slice none 0 0, .slice none 0 0] 38)).alloc (.cells #[.int .u8 82, .int .u8 79, .int .u8 49] 5 (3, 4))).heap.size := by simp
  have HP := Lib.hid (prefix_any A (some ⟨w.heap.size + 1, 0, none⟩) n c 3 xs _ w.heap.size (w.heap.size + 2) hr1 hk1 hnc hcm)
  have HZ1 := Lib.hid hz1
  have HR1 := Lib.hid hr1
  have HBA := Lib.hid hb1
  clear hz1 hr1 hk1 hb0 hb1 h
  unfold maxLen at hcm
  go_enter Try.func22, Try.ntmps22
  go_wp2_with fail
  refine HP.out.mono ?_
  rintro e w1 ⟨rfl, rfl⟩
  clear HP hcv
  generalize (w.alloc (.cells #[.slice none 0 0, .slice none 0 0, .slice none 0 0, .slice none 0 0] 38)).alloc (.cells #[.int .u8 82, .int .u8 79, .int .u8 49] 5 (3, 4)) = w1 at *
  by_cases hsg : signed xs
  · have hn3 : 3 ≤ n := by
      have := congrArg List.length hsg
      simp [HL.out] at this
      omega
    have hd : decide (signed xs) = true := by simpa using hsg
    have HSG := Lib.hid hsg
    obtain ⟨A3, hA3, hsl⟩ := slice_cut A n c 3 hn3 hnc hcm
    have HSL := Lib.hid hsl
    have HR3 := Lib.hid (rb_cut HR1.out hn3 hnc A3 hA3)
    clear hsl hA3 hsg
    rw [hd]
    clear hd
    go_upto_region 5 with (refine wpList_slice_l rfl 35 5 (.tmp 14) (.const (.int .i64 3)) rfl Try.underlying35 _ _ rfl rfl _ (HSL.out _) ?_)
    have HD0 := Lib.hid (ds_new (B := w.heap.size + 1) (W := w1) (n := n - 3) (c := c - 3) (A := A3) (xs := xs.drop 3) (HR3.out.more (Nat.le_succ _)) (by omega) (by unfold maxLen; omega) (by omega))
    have HB0 : Hid (Below w1.heap.size w1 (((w1.alloc (.cells #[.slice A3 (n - 3) (c - 3), .bool false] 95)).alloc (.cells #[.pointer (some ⟨w1.heap.size, 0, none⟩)] 93)).alloc (.cells #[.slice none 0 0, .slice none 0 0, .slice none 0 0, .slice none 0 0] 38))) := Lib.hid ((((Below.refl _ _).alloc (Nat.le_refl _) _).alloc (by simp) _).alloc (by simp; omega) _)
    have HZ5 := Lib.hid (HZ1.out.fr (Fr.of_grow HB0.out) (fun h => h))
    have HB5 := Lib.hid (HBA.out.trans (HB0.out.mono HBA.out.size))
    have HR5 := Lib.hid (HR1.out.below' HB0.out (by omega))
    unfold zeros38 at HD0
    clear HZ1 HBA HR1 HB0 HR3 HSL
    generalize (((w1.alloc (.cells #[.slice A3 (n - 3) (c - 3), .bool false] 95)).alloc (.cells #[.pointer (some ⟨w1.heap.size, 0, none⟩)] 93)).alloc (.cells #[.slice none 0 0, .slice none 0 0, .slice none 0 0, .slice none 0 0] 38)) = w5 at *
    obtain ⟨q, hq⟩ : ∃ q, w1.heap.size + 1 = q := ⟨_, rfl⟩
    obtain ⟨g, hg⟩ : ∃ g, w1.heap.size = g := ⟨_, rfl⟩
    obtain ⟨ob, hob⟩ : ∃ ob, w1.heap.size + 1 + 1 = ob := ⟨_, rfl⟩
    rw [hob, hq, hg] at HD0 ⊢
    clear hq hg hob hs1
    clear w1
    have HM := Lib.hid (many41 w5 (w.heap.size + 1) q g ob (some (xs.drop 3)) _ _ _ _ _ _ _ HD0.out)
    have hcv := HD0.out.var.cell
    have hlv := HD0.out.var.lt
    go_wp2_with fail
    refine HM.out.mono ?_
    rintro e w6 ⟨rfl, v0, hD, hl0, hB⟩
    obtain ⟨ws, s1, hm1⟩ : ∃ ws s1, manyR wordR (some (xs.drop 3)) = (ws, s1) := ⟨_, _, rfl⟩
    rw [hm1] at hD hl0
    dsimp only at hD hl0
    obtain ⟨a, s2, hs2, ra0, ra1, hb2⟩ := half_split s1 hD.rd.byt
    obtain ⟨k, rfl⟩ : ∃ k : Nat, a = k := ⟨a.toNat, by omega⟩
    obtain ⟨bs, s3, hs3⟩ : ∃ bs s3, bytesR k s2 = (bs, s3) := ⟨_, _, rfl⟩
    have HM1 := Lib.hid hm1
    have HS2 := Lib.hid hs2
    have HS3 := Lib.hid hs3
    have HD6 := Lib.hid hD
    have HB6 := Lib.hid hB
    clear hm1 hs2 hs3 hD hB hcv hlv HM HD0
    have hcv := HD6.out.var.cell
    have hlv := HD6.out.var.lt
    have hlb := HD6.out.blk.lt
    have HHC := Lib.hid (half_f g (w.heap.size + 1) s1 s2 k w6.drew HD6.out.drew.rd HD6.out.lg HS2.out)
    have HF2 : Hid (∀ v w', HalfF g (w.heap.size + 1) k s2 w6.drew v w' → v = .int .i64 k ∧ DS w' (w.heap.size + 1) q g ob s2 v0 (.slice none 0 0) (.slice none 0 0) (.slice none 0 0) ws [] [] [] ∧ Below (w.heap.size + 1) w6 w') := Lib.hid (fun v w' ⟨e, hd, hf⟩ => ⟨e, HD6.out.drew.step hd hf, ((Below.refl _ _).drew).trans (hf.below HD6.out.low (fun k e => e ▸ HD6.out.lg))⟩)
    have HTK := Lib.hid (fun w7 (h7 : DS w7 (w.heap.size + 1) q g ob s2 v0 (.slice none 0 0) (.slice none 0 0) (.slice none 0 0) ws [] [] []) => take_f (v1 := .slice none 0 0) h7 k (by omega) HS3.out)
    go_wp2_with fail
    go_region_law (first | (refine step_call_go rfl 42 #[.tmp 22] #[93] rfl #[.pointer (some ⟨g, 0, none⟩)] (by simp [Act.eval, Act.put]) (run42 #[.pointer (some ⟨g, 0, none⟩)] w6.drew) (HalfF g (w.heap.size + 1) k s2 w6.drew) HHC.out ?_; intro v7 w7 hh7; obtain ⟨rfl, h7, hb7⟩ := HF2.out v7 w7 hh7; have H7 := Lib.hid h7; have HB7 := Lib.hid hb7; clear h7 hb7 hh7; have q7 := H7.out.var.cell 0; have ql7 := H7.out.var.lt; have HT7 := Lib.hid (HTK.out w7 H7.out)) | (refine step_call_go rfl 43 #[.tmp 21, .tmp 23] #[93, 3] rfl #[.pointer (some ⟨g, 0, none⟩), .int .i64 k] (by simp [Act.eval, Act.put]) (run43 #[.pointer (some ⟨g, 0, none⟩), .int .i64 k] w7) (TakeF (w.heap.size + 1) q g ob s3 v0 (.slice none 0 0) (.slice none 0 0) (.slice none 0 0) ws [] [] [] bs w7) HT7.out ?_; rintro v8 w8 ⟨A8, m8, c8, rfl, hr8, hd8, hb8⟩; have H8 := Lib.hid hd8; have HB8 := Lib.hid hb8; have HR8 := Lib.hid hr8; clear hr8 hd8 hb8; have hm8 : m8 ≤ 140737488355328 := take_len HR8.out HS3.out (by omega); have HC8 := Lib.hid (clone_f A8 m8 c8 bs w8 (w.heap.size + 1) HR8.out H8.out.low hm8)) | (refine step_call_go rfl 26 #[.tmp 24] #[35] rfl #[.slice A8 m8 c8] (by simp [Act.eval, Act.put]) (run26 #[.slice A8 m8 c8] w8) (CloneF m8 bs w8) HC8.out ?_; rintro v9 w9 ⟨ho9, hb9⟩; obtain ⟨A9, c9, rfl, hr9⟩ := ho9; have ho9 : OwnS w9 w8.heap.size 5 1 m8 (.slice A9 m8 c9) (bs.map (Value.int .u8)) := ⟨A9, c9, rfl, hr9⟩; clear hr9; have HP9 := Lib.hid (put1_done HB6.out HB7.out HB8.out H8.out HR8.out ho9 hb9); have k9 := (Blk.growD H8.out.blk hb9).cell 1; have kl9 := (Blk.growD H8.out.blk hb9).lt; have kf9 := (Blk.growD H8.out.blk hb9).free 1; clear ho9 hb9) | fail)
    all_goals
      obtain ⟨hD, hB⟩ := HP9.out
      have HDa := Lib.hid hD
      have HBa := Lib.hid (hB)
      have HZa := Lib.hid (HZ5.out.fr (Fr.of_below HBa.out) (by omega))
      have HRa := Lib.hid (HR5.out.below' HBa.out (by omega))
      have HBw := Lib.hid (HB5.out.trans (HBa.out.mono (Nat.le_succ _)))
      clear hD hB HP9 k9 kl9 kf9 q7 ql7 HC8 HT7 HTK HF2 HHC hcv hlv hlb HR8 H8 HB8 H7 HB7 HD6 HB6 HZ5 HR5 HB5 HBa
      generalize w9.setCell ⟨ob, 1, none⟩ (.slice A9 m8 c9) = wa at *
      have HM := Lib.hid (many44 wa (w.heap.size + 1) q g ob s3 _ _ _ _ _ _ _ HDa.out)
      have hcv := HDa.out.var.cell
      have hlv := HDa.out.var.lt
      go_wp2_with fail
      refine HM.out.mono ?_
      rintro e wb ⟨rfl, vN, hD, hlN, hB⟩
      obtain ⟨ns, s4, hm4⟩ : ∃ ns s4, manyR nmR s3 = (ns, s4) := ⟨_, _, rfl⟩
      rw [hm4] at hD hlN
      dsimp only at hD hlN
      have HM4 := Lib.hid hm4
      have HDb := Lib.hid hD
      have HZb := Lib.hid (HZa.out.fr (Fr.of_below hB) (by omega))
      have HRb := Lib.hid (HRa.out.below' hB (by omega))
      have HBb := Lib.hid (HBw.out.trans (hB.mono (Nat.le_succ _)))
      clear hm4 hD hB hcv hlv HM HDa HZa HRa HBw
      have HM := Lib.hid (many46 wb (w.heap.size + 1) q g ob s4 _ _ _ _ _ _ _ HDb.out)
      have hcv := HDb.out.var.cell
      have hlv := HDb.out.var.lt
      go_wp2_with fail
      refine HM.out.mono ?_
      rintro e wc ⟨rfl, v3, hD, hl3, hB⟩
      obtain ⟨ds, s5, hm5⟩ : ∃ ds s5, manyR ndR s4 = (ds, s5) := ⟨_, _, rfl⟩
      rw [hm5] at hD hl3
      dsimp only at hD hl3
      have HPT := Lib.hid (parts_eq HM1.out HS2.out HS3.out HM4.out hm5)
      have HDc := Lib.hid hD
      have HZc := Lib.hid (HZb.out.fr (Fr.of_below hB) (by omega))
      have HRc := Lib.hid (HRb.out.below' hB (by omega))
      have HBc := Lib.hid (HBb.out.trans (hB.mono (Nat.le_succ _)))
      have HS3' := Lib.hid HS3.out
      clear hm5 hD hB hcv hlv HM HDb HZb HRb HBb HM1 HM4 HS2 HS3
      have hcv := HDc.out.var.cell
      have hlv := HDc.out.var.lt
      obtain ⟨u0, sh, hc1, hlg, hsh⟩ := rd_cell HDc.out.rd
      have hzc := HZc.out.cell
      have hzl := HZc.out.lt
      have hzf := HZc.out.free
      have HP5 : Hid ((parts (some (xs.drop 3))).st = s5) := Lib.hid (by rw [HPT.out])
      cases s5 with
      | none =>
        obtain rfl : sh = true := by simpa using hsh
        clear hsh
        have HE := Lib.hid (decP_bad (w := w) (w' := set4b wc w.heap.size (.slice none 0 0) (.slice none 0 0) (.slice none 0 0) (.slice none 0 0)) (dec_short HSG.out HP5.out) (by decide) (HBc.out.trans ((fr4b wc w.heap.size _ _ _ _).below HBc.out.size (fun k e => e ▸ Nat.le_refl _))))
        go_wp2
        exact bodyPost_ret (v := .tuple #[.agg #[.slice none 0 0, .slice none 0 0, .slice none 0 0, .slice none 0 0], .int .i64 21]) (by simp [results, Try.results22, go_sem, hzc, hzl]) rfl HE.out
      | some rest =>
        obtain rfl : sh = false := by simpa using hsh
        clear hsh hzc hzl hzf
        have HNN : Hid ((parts (some (xs.drop 3))).st ≠ none) := Lib.hid (by rw [HP5.out]; simp)
        obtain ⟨X0, e0, rfl, -⟩ := HDc.out.o0
        obtain ⟨X1, e1, hx1, -⟩ := HDc.out.o1
        injection hx1 with hx1 hx2 hx3
        subst hx1
        subst hx3
        clear hx2
        obtain ⟨X2, e2, rfl, -⟩ := HDc.out.oN
        obtain ⟨X3, e3, rfl, -⟩ := HDc.out.o3
        have hbl : bs.length ≤ 65535 := by have := bytesR_len (n := k) s2; rw [HS3'.out] at this; dsimp only at this; omega
        obtain ⟨hFull, -, hm8, -, -⟩ := ds_full HDc.out hl0 hbl hlN hl3 (W' := wc) (Fr.refl Nil wc) (fun k h => h.elim)
        have HFIN := Lib.hid (fun (wd : World) (hD : DS wd (w.heap.size + 1) q g ob (some rest) (.slice X0 ws.length e0) (.slice A9 m8 c9) (.slice X2 ns.length e2) (.slice X3 ds.length e3) ws bs ns ds) (W' : World) (hf : Fr (fun k => k = w.heap.size) wd W') => (ds_full hD hl0 hbl hlN hl3 (W' := W') hf (fun k h => by omega)).1)
        have HENC := Lib.hid (enc_any _ wc wc.heap.size ws bs hFull HDc.out.fw (Nat.le_refl _))
        have hm8' := hm8
        clear hFull hbl
        unfold BytesPost at HENC
        obtain ⟨E, hE⟩ : ∃ E, objErr ⟨X0, ws.length, e0, A9, m8, c9, X2, ns.length, e2, X3, ds.length, e3, ns, ds⟩ = E := ⟨_, rfl⟩
        rw [hE] at HENC
        have HEO : Hid (errOb (parts (some (xs.drop 3))) = E) := Lib.hid (by rw [HPT.out, ← hE, hm8]; rfl)
        have HEN : Hid (encOb (parts (some (xs.drop 3))) = objI ws bs ws.length m8 ns.length ds.length ns ds) := Lib.hid (by rw [HPT.out, hm8]; rfl)
        dsimp only at HENC
        have HM8 := Lib.hid hm8
        clear hE hm8 hm8'
        have hcb := HDc.out.blk.cell
        have hlb := HDc.out.blk.lt
        go_wp2_with fail
        refine HENC.out.mono ?_
        rintro e wd ⟨va, na, rfl, ⟨Aa, ca, rfl, hrow⟩, hbd⟩
        have HBd := Lib.hid (HBc.out.trans (hbd.mono HBc.out.size))
        have HZd := Lib.hid (HZc.out.fr (Fr.of_grow hbd) (fun h => h))
        have HRd := Lib.hid (HRc.out.below' hbd HBc.out.size)
        have HDd := Lib.hid (HDc.out.grow hbd)
        have HGd := Lib.hid hbd
        clear hcb hlb hbd HENC hlg hc1 hcv hlv
        have hzc := HZd.out.cell
        have hzl := HZd.out.lt
        have hzf := HZd.out.free
        by_cases hz : E = 0
        · subst hz
          have hb2 : Byt (objI ws bs ws.length m8 ns.length ds.length ns ds) := by
            have hfit := obj_zero' HEO.out HPT.out
            rw [HM8.out]
            exact objI_byt HDd.out.fw HDd.out.fb hfit.n0 hfit.n1 hfit.n2 hfit.n3 hfit.ns hfit.ds
          rw [if_pos rfl] at hrow
          have HEQ := Lib.hid (equal_any Aa A na ca n c _ xs wd wd.heap.size w.heap.size ⟨hrow.reads, hb2⟩ HRd.out)
          clear hrow hb2
          go_wp2_with fail
          refine HEQ.out.mono ?_
          rintro e we ⟨rfl, rfl⟩
          by_cases hx : objI ws bs ws.length m8 ns.length ds.length ns ds = xs
          · have hdx : decide (objI ws bs ws.length m8 ns.length ds.length ns ds = xs) = true := by simpa using hx
            have HOK := Lib.hid (dec_ok HSG.out HNN.out ⟨HEO.out, HEN.out.trans hx⟩)
            rw [hdx]
            clear hx hdx HEQ
            have hcb := HDd.out.blk.cell
            have hlb := HDd.out.blk.lt
            have HFI := Lib.hid (decP_good (w := w) HOK.out HPT.out (HBd.out.trans ((fr4b wd w.heap.size (.slice X0 ws.length e0) (.slice A9 m8 c9) (.slice X2 ns.length e2) (.slice X3 ds.length e3)).below HBd.out.size (fun k e => e ▸ Nat.le_refl _))) (HFIN.out wd HDd.out _ (fr4b wd w.heap.size (.slice X0 ws.length e0) (.slice A9 m8 c9) (.slice X2 ns.length e2) (.slice X3 ds.length e3))))
            go_wp2
            exact bodyPost_ret (v := .tuple #[.agg #[.slice X0 ws.length e0, .slice A9 m8 c9, .slice X2 ns.length e2, .slice X3 ds.length e3], .int .i64 0]) (by simp [results, Try.results22, go_sem, hzc, hzl]) rfl HFI.out
          · have hdx : decide (objI ws bs ws.length m8 ns.length ds.length ns ds = xs) = false := by simpa using hx
            have HE := Lib.hid (decP_bad (w := w) (w' := set4b wd w.heap.size (.slice none 0 0) (.slice none 0 0) (.slice none 0 0) (.slice none 0 0)) (dec_form HSG.out HNN.out (fun h => hx (HEN.out.symm.trans h.2))) (by decide) (HBd.out.trans ((fr4b wd w.heap.size _ _ _ _).below HBd.out.size (fun k e => e ▸ Nat.le_refl _))))
            rw [hdx]
            clear hx hdx HEQ
            go_wp2
            exact bodyPost_ret (v := .tuple #[.agg #[.slice none 0 0, .slice none 0 0, .slice none 0 0, .slice none 0 0], .int .i64 3]) (by simp [results, Try.results22, go_sem, hzc, hzl]) rfl HE.out
        · have HE := Lib.hid (decP_bad (w := w) (w' := set4b wd w.heap.size (.slice none 0 0) (.slice none 0 0) (.slice none 0 0) (.slice none 0 0)) (dec_form HSG.out HNN.out (fun h => hz (HEO.out.symm.trans h.1))) (by decide) (HBd.out.trans ((fr4b wd w.heap.size _ _ _ _).below HBd.out.size (fun k e => e ▸ Nat.le_refl _))))
          have hE' : (E != 0) = true := by simpa using hz
          clear hz hrow
          go_wp2
          exact bodyPost_ret (v := .tuple #[.agg #[.slice none 0 0, .slice none 0 0, .slice none 0 0, .slice none 0 0], .int .i64 3]) (by simp [results, Try.results22, go_sem, hzc, hzl]) rfl HE.out
  · have hd : decide (signed xs) = false := by simpa using hsg
    have HE := Lib.hid (decP_bad (w := w) (w' := set4b w1 w.heap.size (.slice none 0 0) (.slice none 0 0) (.slice none 0 0) (.slice none 0 0)) (dec_unsigned hsg) (by decide) (HBA.out.trans ((fr4b w1 w.heap.size _ _ _ _).below HBA.out.size (fun k e => e ▸ Nat.le_refl _))))
    have hzc := HZ1.out.cell
    have hzl := HZ1.out.lt
    have hzf := HZ1.out.free
    rw [hd]
    go_wp2
    exact bodyPost_ret (v := .tuple #[.agg #[.slice none 0 0, .slice none 0 0, .slice none 0 0, .slice none 0 0], .int .i64 3]) (by simp [results, Try.results22, go_sem, hzc, hzl]) rfl HE.out
end Go.Proofs.Ytgmpcdonmlhohaa
