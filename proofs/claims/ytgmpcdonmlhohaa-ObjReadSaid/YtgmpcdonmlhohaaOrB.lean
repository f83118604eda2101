/- Contracts of obj's reader: take, half, text. -/
import Derived.Test.YtgmpcdonmlhohaaOrA
namespace Go.Proofs.Ytgmpcdonmlhohaa
open Go.RowKit
set_option maxHeartbeats 400000
set_option linter.unusedVariables false
set_option linter.unusedSimpArgs false
/-- What the reader's two cells say. -/
def Lies (w : World) (B : Nat) (A : Option Addr) (n c : Nat) (sh : Bool) : Rst → Prop
  | none => sh = true
  | some xs => sh = false ∧ RB w B A n xs ∧ n ≤ c ∧ c ≤ maxLen
/-- Block g is a reader with this left. -/
def Rd (w : World) (g B : Nat) (s : Rst) : Prop := ∃ A n c sh, Blk w g #[.slice A n c, .bool sh] 95 ∧ Lies w B A n c sh s
theorem rb_fr {w w' : World} {B n : Nat} {A : Option Addr} {xs : List Int} {S : Nat → Prop} (h : RB w B A n xs) (hf : Fr S w w') (hB : B ≤ w.heap.size) (hS : ∀ k, S k → B ≤ k) : RB w' B A n xs :=
  ⟨h.1.keep fun p hp => hf.cell (by omega) (fun hs => by have := hS _ hs; omega), h.2⟩
theorem Lies.fr {w w' : World} {B n c : Nat} {A : Option Addr} {sh : Bool} {s : Rst} {S : Nat → Prop} (h : Lies w B A n c sh s) (hf : Fr S w w') (hB : B ≤ w.heap.size) (hS : ∀ k, S k → B ≤ k) : Lies w' B A n c sh s := by
  cases s with
  | none => exact h
  | some xs => exact ⟨h.1, rb_fr h.2.1 hf hB hS, h.2.2⟩
theorem Rd.fr {w w' : World} {g B : Nat} {s : Rst} {S : Nat → Prop} (h : Rd w g B s) (hf : Fr S w w') (hB : B ≤ w.heap.size) (hS : ∀ k, S k → B ≤ k) (hg : ¬ S g) : Rd w' g B s := by
  obtain ⟨A, n, c, sh, h1, h2⟩ := h
  exact ⟨A, n, c, sh, h1.fr hf hg, h2.fr hf hB hS⟩
theorem rd_drewN {w : World} {g B : Nat} {s : Rst} (h : Rd w g B s) (k : Nat) : Rd (w.drewN k) g B s := by
  obtain ⟨A, n, c, sh, h1, h2⟩ := h
  refine ⟨A, n, c, sh, h1, ?_⟩
  cases s with
  | none => exact h2
  | some xs => exact ⟨h2.1, ⟨h2.2.1.1.drewN k, h2.2.1.2⟩, h2.2.2⟩
def TakeP (g B : Nat) (w : World) (n : Nat) (s : Rst) (e : Ending) (w' : World) : Prop :=
  ∃ A m c, e = .returned (.slice A m c) ∧ RB w' B A m (bytesR n s).1 ∧ Rd w' g B (bytesR n s).2 ∧ Fr (fun k => k = g) w w'
theorem rb_nil (w : World) (B : Nat) : RB w B none 0 [] := ⟨Reads.none_, fun x hx => by simp at hx⟩
theorem bytesR_short {n : Nat} {xs : List Int} (h : xs.length < n) : bytesR n (some xs) = ([], none) := by simp only [bytesR]; rw [if_pos (by omega)]
theorem bytesR_go {n : Nat} {xs : List Int} (h : ¬ xs.length < n) : bytesR n (some xs) = (xs.take n, some (xs.drop n)) := by simp only [bytesR]; rw [if_neg (by omega)]; simp
theorem fr_set (w : World) (g j : Nat) (u : Value) : Fr (fun k => k = g) w (w.setCell ⟨g, j, none⟩ u) := (Fr.refl (fun k => k = g) w).setCell (p := ⟨g, j, none⟩) (fun _ => rfl) u
/-- 's[k:]', its address under one name. -/
theorem slice_cut (A : Option Addr) (m c n : Nat) (h : n ≤ m) (hm : m ≤ c) (hc : c ≤ 9223372036854775807) : ∃ A', A' = (if c = n then A else A.map (·.add (n * 1))) ∧ ∀ w, (Instr.slice 35 (.slice A m c) (some (.int .i64 n)) none none).run Try.prog w = .ok (.slice A' (m - n) (c - n)) w := by
  have hel : Try.prog.elem 35 = 5 := by kernel_rfl
  have hs : ∀ W, (sizeOf 5).run Try.prog W = .ok 1 W := fun W => by kernel_rfl
  refine ⟨_, rfl, fun w => ?_⟩
  rw [run_slice_l (P := Try.prog) w 35 A m c (by rw [hel]; exact Try.underlying35) .i64 n (by omega) (by omega), hel, hs]
  simp [sliced, Result.andThen]
theorem rb_take {w : World} {B n k : Nat} {A : Option Addr} {xs : List Int} (h : RB w B A n xs) (hk : k ≤ n) : RB w B A k (xs.take k) := by
  have := h.1.take hk
  rw [Nat.mul_one, ← List.map_take] at this
  exact ⟨this, fun x hx => h.2 x (List.mem_of_mem_take hx)⟩
theorem rb_cut {w : World} {B n c k : Nat} {A : Option Addr} {xs : List Int} (h : RB w B A n xs) (hk : k ≤ n) (hc : n ≤ c) (A' : Option Addr) (e : A' = if c = k then A else A.map (·.add (k * 1))) : RB w B A' (n - k) (xs.drop k) := by
  have := h.1.cut hk hc
  rw [Nat.mul_one, ← List.map_drop] at this
  subst e
  rw [Nat.mul_one]
  exact ⟨this, fun x hx => h.2 x (List.mem_of_mem_drop hx)⟩
theorem wpList_slice_l {P : Program} {ops : Array Oper} {rest : List Oper} {o : Oper} {a : Act} {Q : Exit → Act → World → Prop} {w : World} (hg : o.guard = none) (t e : TypeId) (x l : Operand) (ho : o.op = .slice t x (some l) none none) (ht : P.underlying t = some (.slice e)) (vx vl : Value) (hx : a.eval x = vx) (hl : a.eval l = vl) (v : Value)
    (hrun : (Instr.slice t vx (some vl) none none).run P w = .ok v w) (h : wpList P ops Q rest (a.put o.dst v) w) : wpList P ops Q (o :: rest) a w :=
  wpList_plain hg fun K hK => by
    unfold Oper.wp execOp
    simp only [ho, hx, hl, Option.map_some, Option.map_none, Instr.sliceAt, Sem.run_bind, run_underlying ht, Result.andThen, hrun]
    exact hK _ _ h
set_option maxRecDepth 100000 in
theorem take_any (g B : Nat) (s : Rst) (n : Nat) (w : World) (h : Rd w g B s) (hB : B ≤ g) (hn : n ≤ 65535) :
    Calls Try.prog 43 #[.pointer (some ⟨g, 0, none⟩), .int .i64 n] w (TakeP g B w n s) := by
  obtain ⟨A, m, c, sh, hblk, hl⟩ := h
  have hc := hblk.cell
  have hf := hblk.free
  have hlt := hblk.lt
  have hB1 : B ≤ w.heap.size := by omega
  have hS : ∀ k, k = g → B ≤ k := fun k e => e ▸ hB
  cases s with
  | none =>
    obtain rfl : sh = true := hl
    have HP := Lib.hid (hblk.set 1 (.bool true))
    go_enter Try.func43, Try.ntmps43
    go_wp2
    go_ret
    exact ⟨none, 0, 0, rfl, rb_nil _ _, ⟨A, m, c, true, by simpa using HP.out, rfl⟩, fr_set _ _ _ _⟩
  | some xs =>
    obtain ⟨rfl, hr, hmc, hcm⟩ := hl
    have hxl := hr.len
    have HR := Lib.hid hr
    have HX := Lib.hid hxl
    clear hr hxl
    by_cases hlt' : m < n
    · have HE := Lib.hid (bytesR_short (n := n) (xs := xs) (by rw [HX.out]; exact hlt'))
      have HP := Lib.hid (hblk.set 1 (.bool true))
      go_enter Try.func43, Try.ntmps43
      go_wp2
      go_ret
      refine ⟨none, 0, 0, rfl, ?_, ?_, fr_set _ _ _ _⟩
      · rw [HE.out]; exact rb_nil _ _
      · rw [HE.out]; exact ⟨A, m, c, true, by simpa using HP.out, rfl⟩
    · have HE := Lib.hid (bytesR_go (n := n) (xs := xs) (by rw [HX.out]; exact hlt'))
      unfold maxLen at hcm
      have hnm : n ≤ m := by omega
      obtain ⟨A', hA', hsl⟩ := slice_cut A m c n hnm hmc hcm
      have HT := Lib.hid (rb_take HR.out hnm)
      have HD := Lib.hid (rb_cut HR.out hnm hmc A' hA')
      have HP := Lib.hid ((hblk.set 1 (.bool false)).set 0 (.slice A' (m - n) (c - n)))
      have HF := Lib.hid ((fr_set w g 1 (.bool false)).trans' (fr_set (w.setCell ⟨g, 1, none⟩ (.bool false)) g 0 (.slice A' (m - n) (c - n))))
      have HSL := Lib.hid hsl
      clear hA' hsl
      go_enter Try.func43, Try.ntmps43
      go_wp2_with (refine wpList_slice_l rfl 35 5 (.tmp 36) (.tmp 37) rfl Try.underlying35 _ _ rfl rfl _ (HSL.out _) ?_)
      go_ret
      refine ⟨A, n, c, rfl, ?_, ?_, HF.out⟩
      · rw [HE.out]; exact rb_fr HT.out HF.out hB1 hS
      · rw [HE.out]; exact ⟨A', m - n, c - n, false, by simpa using HP.out, rfl, rb_fr HD.out HF.out hB1 hS, by omega, by unfold maxLen; omega⟩
/-- Two bytes as a number. -/
theorem or_bytes {x y : Int} (hx : 0 ≤ x ∧ x < 256) (hy : 0 ≤ y ∧ y < 256) : bits .or .i64 x (y * 256) = x + y * 256 := by
  rw [show bits .or .i64 x (y * 256) = bits .or .i64 (y * 256) x from by unfold bits; simp [Nat.or_comm]]
  rw [bits_join .i64 62 (by decide) (fun n h0 h1 => by rw [IntKind.wrap_i64]; omega) 8 (y * 256) x (by omega) (by omega) (by omega) (by omega) (by omega) (by omega)]
  omega
theorem halfR_eq (s : Rst) : halfR s = (if (bytesR ((2 : Nat) : Int) s).1.length < 2 then 0 else (bytesR ((2 : Nat) : Int) s).1.getD 0 0 + 256 * (bytesR ((2 : Nat) : Int) s).1.getD 1 0, (bytesR ((2 : Nat) : Int) s).2) := by
  cases s with
  | none => simp [halfR, bytesR]
  | some xs =>
    by_cases h : xs.length < 2
    · have e := bytesR_short (n := 2) h
      generalize bytesR ((2 : Nat) : Int) (some xs) = q at *
      subst e
      simp [halfR, h]
    · have e := bytesR_go (n := 2) h
      generalize bytesR ((2 : Nat) : Int) (some xs) = q at *
      subst e
      match xs, h with
      | [], h => simp at h
      | [_], h => simp at h
      | a :: b :: r, h => simp [halfR]
theorem textR_eq (s : Rst) (hs : ∀ xs, s = some xs → Byt xs) : textR s = if (bytesR ((1 : Nat) : Int) s).1.length < 1 then (ByteArray.empty, (bytesR ((1 : Nat) : Int) s).2) else (strOfNums (bytesR ((bytesR ((1 : Nat) : Int) s).1.getD 0 0) (bytesR ((1 : Nat) : Int) s).2).1, (bytesR ((bytesR ((1 : Nat) : Int) s).1.getD 0 0) (bytesR ((1 : Nat) : Int) s).2).2) := by
  cases s with
  | none => simp [textR, bytesR]
  | some xs =>
    by_cases h : xs.length < 1
    · have e := bytesR_short (n := 1) h
      generalize bytesR ((1 : Nat) : Int) (some xs) = q at *
      subst e
      simp [textR, h]
    · have e := bytesR_go (n := 1) h
      generalize bytesR ((1 : Nat) : Int) (some xs) = q at *
      subst e
      match xs, h with
      | a :: r, h =>
        have ha : 0 ≤ a := (hs _ rfl a (by simp)).1
        obtain ⟨k, rfl⟩ : ∃ k : Nat, a = k := ⟨a.toNat, by omega⟩
        by_cases h2 : r.length < k
        · have e2 := bytesR_short h2
          simp [textR, h2, e2]; rfl
        · have e2 := bytesR_go h2
          simp [textR, h2, e2]
theorem bytesR_byt {n : Int} {xs : List Int} (h : Byt xs) : Byt (bytesR n (some xs)).1 := by
  simp only [bytesR]
  split
  · intro x hx; simp at hx
  · exact fun x hx => h x (List.mem_of_mem_take hx)
def HalfP (g B : Nat) (w : World) (s : Rst) (e : Ending) (w' : World) : Prop := e = .returned (.int .i64 (halfR s).1) ∧ Rd w' g B (halfR s).2 ∧ Fr (fun k => k = g) w w'
theorem half_of {g B : Nat} {w w' : World} {s s1 : Rst} {x : Int} (e : halfR s = (x, s1)) (hd : Rd w' g B s1) (hf : Fr (fun k => k = g) w w') : HalfP g B w s (.returned (.int .i64 x)) w' := by
  unfold HalfP; rw [e]; exact ⟨rfl, hd, hf⟩
set_option maxRecDepth 100000 in
theorem half_rd (g B : Nat) (s : Rst) (w : World) (h : Rd w g B s) (hB : B ≤ g) : Calls Try.prog 42 #[.pointer (some ⟨g, 0, none⟩)] w (HalfP g B w s) := by
  have HT := Lib.hid (take_any g B s 2 w h hB (by omega))
  have HE := Lib.hid (halfR_eq s)
  go_enter Try.func42, Try.ntmps42
  go_wp2_with fail
  refine HT.out.mono ?_
  rintro e w1 ⟨A, m, c, rfl, hr, hd, hf⟩
  obtain ⟨l, s1, hq⟩ : ∃ l s1, bytesR ((2 : Nat) : Int) s = (l, s1) := ⟨_, _, rfl⟩
  have HE' := Lib.hid hq
  have HE := Lib.hid (HE.out.trans (by rw [hq]))
  clear hq
  change RB w1 B A m (bytesR ((2 : Nat) : Int) s).1 at hr
  change Rd w1 g B (bytesR ((2 : Nat) : Int) s).2 at hd
  rw [HE'.out] at hr hd
  dsimp only at hr hd
  have hl := hr.len
  have r0 := hr.rng 0
  have r1 := hr.rng 1
  have HF := Lib.hid hf
  clear hf HT
  have HD := Lib.hid hd
  clear hd
  have HL := Lib.hid hl
  clear hl
  have HR := Lib.hid hr
  clear hr
  by_cases h2 : m < 2
  · go_wp2
    go_ret
    exact half_of (by rw [HE.out, if_pos (by rw [HL.out]; exact h2)]) HD.out HF.out
  · obtain ⟨b, o, rfl, hb, c0, -⟩ := HR.out.at_ (k := 0) (by omega)
    obtain ⟨b', o', e', hb', c1, -⟩ := HR.out.at_ (k := 1) (by omega)
    injection e' with e'; injection e' with e1 e2
    subst e1; subst e2
    rw [Nat.add_zero] at c0
    obtain ⟨x, hx⟩ : ∃ x, l.getD 0 0 = x := ⟨_, rfl⟩
    obtain ⟨y, hy⟩ : ∃ y, l.getD 1 0 = y := ⟨_, rfl⟩
    rw [hx] at c0 r0
    rw [hy] at c1 r1
    have HGX := Lib.hid hx
    have HGY := Lib.hid hy
    clear hx hy
    have ho := or_bytes r0 r1
    have HX := Lib.hid (show x + 256 * y = x + y * 256 by omega)
    go_wp2_with fail
    go_quiet (fail)
    go_wp2
    go_ret
    exact half_of (by rw [HE.out, if_neg (by rw [HL.out]; exact h2), HGX.out, HGY.out, HX.out]) (rd_drewN HD.out _) (HF.out.drewN _)
def TextP (g B : Nat) (w : World) (s : Rst) (e : Ending) (w' : World) : Prop := e = .returned (.string (textR s).1) ∧ Rd w' g B (textR s).2 ∧ Fr (fun k => k = g) w w'
theorem text_of {g B : Nat} {w w' : World} {s s1 : Rst} {x : ByteArray} (e : textR s = (x, s1)) (hd : Rd w' g B s1) (hf : Fr (fun k => k = g) w w') : TextP g B w s (.returned (.string x)) w' := by
  unfold TextP; rw [e]; exact ⟨rfl, hd, hf⟩
theorem Rd.byt {w : World} {g B : Nat} {s : Rst} (h : Rd w g B s) : ∀ xs, s = some xs → Byt xs := by
  rintro xs rfl
  obtain ⟨A, n, c, sh, _, h2⟩ := h
  exact h2.2.1.2
set_option maxRecDepth 100000 in
theorem text_rd (g B : Nat) (s : Rst) (w : World) (h : Rd w g B s) (hB : B ≤ g) : Calls Try.prog 45 #[.pointer (some ⟨g, 0, none⟩)] w (TextP g B w s) := by
  have HT := Lib.hid (take_any g B s 1 w h hB (by omega))
  have HE := Lib.hid (textR_eq s h.byt)
  go_enter Try.func45, Try.ntmps45
  go_wp2_with fail
  refine HT.out.mono ?_
  rintro e w1 ⟨A, m, c, rfl, hr, hd, hf⟩
  obtain ⟨l, s1, hq⟩ : ∃ l s1, bytesR ((1 : Nat) : Int) s = (l, s1) := ⟨_, _, rfl⟩
  have HE' := Lib.hid hq
  have HE := Lib.hid (HE.out.trans (by rw [hq]))
  clear hq
  change RB w1 B A m (bytesR ((1 : Nat) : Int) s).1 at hr
  change Rd w1 g B (bytesR ((1 : Nat) : Int) s).2 at hd
  rw [HE'.out] at hr hd
  dsimp only at hr hd
  have hl := hr.len
  have r0 := hr.rng 0
  have HF := Lib.hid hf
  clear hf HT
  have HD := Lib.hid hd
  clear hd
  have HL := Lib.hid hl
  clear hl
  have HR := Lib.hid hr
  clear hr
  by_cases h2 : m < 1
  · go_wp2
    go_ret
    exact text_of (by rw [HE.out, if_pos (by rw [HL.out]; exact h2)]; rfl) HD.out HF.out
  · obtain ⟨b, o, rfl, hb, c0, -⟩ := HR.out.at_ (k := 0) (by omega)
    rw [Nat.add_zero] at c0
    obtain ⟨x, hx⟩ : ∃ x, l.getD 0 0 = x := ⟨_, rfl⟩
    rw [hx] at c0 r0
    have HGX := Lib.hid hx
    clear hx
    obtain ⟨k, rfl⟩ : ∃ k : Nat, x = k := ⟨x.toNat, by omega⟩
    have HT2 := Lib.hid (take_any g B s1 k w1 HD.out hB (by omega))
    go_wp2_with fail
    refine HT2.out.mono ?_
    rintro e w2 ⟨A2, m2, c2, rfl, hr2, hd2, hf2⟩
    have HD2 := Lib.hid hd2
    have HF2 := Lib.hid (HF.out.trans' hf2)
    have hconv := hr2.conv (P := Try.prog) c2 35 9 5 Try.underlying35 Try.underlying5 Try.underlying9
    clear hd2 hf2 hr2
    go_wp2
    go_ret
    exact text_of (by rw [HE.out, if_neg (by rw [HL.out]; exact h2), HGX.out]) HD2.out HF2.out
end Go.Proofs.Ytgmpcdonmlhohaa
