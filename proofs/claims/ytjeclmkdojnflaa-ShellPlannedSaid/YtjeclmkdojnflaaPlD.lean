/- Contracts of the maker's shut, turn, file and of what a child does. -/
import Derived.Test.YtjeclmkdojnflaaPlC
namespace Go.Proofs.Ytjeclmkdojnflaa
open Go.RowKit
set_option maxHeartbeats 400000
set_option linter.unusedVariables false
set_option linter.unusedSimpArgs false
theorem ret_of {W w' : World} {B g p : Nat} {v : Value} {who : Int} {q q' : Pst} (e : q' = q) (h : MGo W B g p v who q w') : RetG W B g p v who q' (.returned (.tuple #[])) w' := ⟨rfl, e ▸ h⟩
set_option maxRecDepth 100000 in
theorem shut_any (W : World) (B g p : Nat) (v : Value) (who n : Int) (q : Pst) (h : Mk W B g p v who q) (hl : q.2.length ≤ 9000) (hq : Low q.1) (hn : n < 8) :
    Calls Try.prog 18 #[.pointer (some ⟨g, 0, none⟩), .int .i64 n] W (RetG W B g p v who (shutF who n q)) := by
  have hlg := h.mb.lt
  by_cases h0 : 0 ≤ n
  · obtain ⟨k, rfl⟩ : ∃ k : Nat, n = k := ⟨n.toNat, by omega⟩
    have hk8 : k < 8 := by omega
    have hck := (h.mb.cell (2 + k)).trans (mkC_at p who q.1 hk8)
    have hd : decide ((0 : Int) ≤ k) = true := by simp
    have HC := Lib.hid (step_any W B g p v who q 6 k 0 0 ByteArray.empty h (by omega))
    obtain ⟨x, hx⟩ : ∃ x, q.1 k = x := ⟨_, rfl⟩
    rw [hx] at hck
    have H := Lib.hid h
    clear h
    cases x with
    | false =>
      have HE : Hid (shutF who k q = q) := Lib.hid (by unfold shutF; rw [if_neg (by rw [hx]; simp)])
      clear hx
      go_enter Try.func18, Try.ntmps18
      go_wp2
      exact bodyPost_ret (v := .tuple #[]) (by simp [results, Try.results18, go_sem]) rfl (ret_of HE.out H.out.refl)
    | true =>
      have HE : Hid (shutF who k q = (up q.1 k false, q.2 ++ [stp who 6 k 0])) := Lib.hid (by unfold shutF; rw [if_pos ⟨by omega, hx⟩])
      clear hx
      go_enter Try.func18, Try.ntmps18
      go_wp2_with fail
      refine HC.out.mono ?_
      rintro e w1 ⟨rfl, hG⟩
      have HG := Lib.hid hG
      obtain ⟨v1, m1, f1, o1⟩ := hG
      have HP := Lib.hid (HG.out.trans (fun v1 m1 => m1.put (k := k) hk8 false))
      have hl1 := m1.mb.lt
      have hf1 := m1.mb.free (2 + k)
      have hc1 := (m1.mb.cell (2 + k)).trans (mkC_at p who q.1 hk8)
      clear m1 f1 o1 hck hlg HC HG
      go_wp2
      exact bodyPost_ret (v := .tuple #[]) (by simp [results, Try.results18, go_sem]) rfl (ret_of HE.out HP.out)
  · have HE : Hid (shutF who n q = q) := Lib.hid (by unfold shutF; rw [if_neg (by omega)])
    have hd : decide ((0 : Int) ≤ n) = false := by simpa using h0
    have H := Lib.hid h
    clear h
    go_enter Try.func18, Try.ntmps18
    go_wp2
    exact bodyPost_ret (v := .tuple #[]) (by simp [results, Try.results18, go_sem]) rfl (ret_of HE.out H.out.refl)
theorem MGo.comp {w w1 w2 : World} {B g p : Nat} {v v1 : Value} {who : Int} {q2 : Pst} (f1 : Fr (MF g p v) w w1) (o1 : ∀ k, v1.ownBlock = some k → v.ownBlock = some k ∨ w.heap.size ≤ k) (h2 : MGo w1 B g p v1 who q2 w2) : MGo w B g p v who q2 w2 := by
  obtain ⟨v3, m3, f3, o3⟩ := h2
  refine ⟨v3, m3, f1.trans f3 (fun k hk hF => ?_), fun k hk => ?_⟩
  · rcases hF with e | e | e
    · exact .inl e
    · exact .inr (.inl e)
    · rcases o1 k e with e | e
      · exact .inr (.inr e)
      · omega
  · rcases o3 k hk with e | e
    · exact o1 k e
    · have := f1.size; exact .inr (by omega)
theorem Mk.grown {W W' : World} {B g p : Nat} {v : Value} {who : Int} {q : Pst} (h : Mk W B g p v who q) (hb : Below W.heap.size W W') : MGo W B g p v who q W' :=
  ⟨v, h.grow hb, (Fr.of_grow hb).mono fun _ _ e => e.elim, fun k hk => .inl hk⟩
theorem Mk.keep {W W' : World} {B g p k : Nat} {v : Value} {who : Int} {q : Pst} {cs : Array Value} {t : TypeId} (h : Mk W B g p v who q) (hk : Blk W k cs t) (h1 : t ≠ 57) (h2 : t ≠ 24) (h3 : t ≠ 32) (hf : Fr (MF g p v) W W') : Blk W' k cs t :=
  hk.fr hf (fun e => by
    rcases e with e | e | e
    · exact blk_ne hk h.mb h1 e
    · exact blk_ne hk h.sb h2 e
    · exact row_blk h.row hk (Ne.symm h3) e)
set_option maxRecDepth 100000 in
theorem turn_any (W : World) (B g p : Nat) (v : Value) (who fr to : Int) (q : Pst) (h : Mk W B g p v who q) (hl : q.2.length ≤ 8900) (hq : Low q.1) (hfr : fr < 8) (hto : 0 ≤ to ∧ to < 8) :
    Calls Try.prog 33 #[.pointer (some ⟨g, 0, none⟩), .int .i64 fr, .int .i64 to] W (RetG W B g p v who (turnF who fr to q)) := by
  have hlg := h.mb.lt
  have H := Lib.hid h
  obtain ⟨k, rfl⟩ : ∃ k : Nat, to = k := ⟨to.toNat, by omega⟩
  have hk8 : k < 8 := by omega
  by_cases h0 : fr < 0
  · have HE : Hid (turnF who fr k q = q) := Lib.hid (by unfold turnF; rw [if_pos (.inl h0)])
    have hd : decide (fr < 0) = true := by simpa using h0
    clear h
    go_enter Try.func33, Try.ntmps33
    go_wp2
    exact bodyPost_ret (v := .tuple #[]) (by simp [results, Try.results33, go_sem]) rfl (ret_of HE.out H.out.refl)
  · have hd : decide (fr < 0) = false := by simpa using h0
    by_cases h1 : fr = k
    · have HE : Hid (turnF who fr k q = q) := Lib.hid (by unfold turnF; rw [if_pos (.inr h1)])
      have hd1 : (fr == (k : Int)) = true := by simpa using h1
      clear h h1
      go_enter Try.func33, Try.ntmps33
      go_wp2
      exact bodyPost_ret (v := .tuple #[]) (by simp [results, Try.results33, go_sem]) rfl (ret_of HE.out H.out.refl)
    · have HE : Hid (turnF who fr k q = shutF who fr (up q.1 k true, q.2 ++ [stp who 11 fr k])) := Lib.hid (by unfold turnF; rw [if_neg (by omega)])
      have hd1 : (fr == (k : Int)) = false := by simpa using h1
      have HC := Lib.hid (step_any W B g p v who q 11 fr k 0 ByteArray.empty h (by omega))
      clear h h1
      go_enter Try.func33, Try.ntmps33
      go_wp2_with fail
      refine HC.out.mono ?_
      rintro e w1 ⟨rfl, hG⟩
      have HG := Lib.hid hG
      obtain ⟨v1, m1, f1, o1⟩ := hG
      have HP := Lib.hid (HG.out.trans (fun v1 m1 => m1.put (k := k) hk8 true))
      have hl1 := m1.mb.lt
      have hf1 := m1.mb.free (2 + k)
      have hc1 := (m1.mb.cell (2 + k)).trans (mkC_at p who q.1 hk8)
      clear m1 f1 o1 hlg HC HG
      go_wp2_with fail
      obtain ⟨v2, m2, f2, o2⟩ := HP.out
      refine (shut_any _ B g p v2 who fr _ m2 (by simp; omega) (hq.up hto true) hfr).mono ?_
      rintro e w3 ⟨rfl, hG3⟩
      have HF : Hid (MGo W B g p v who (shutF who fr (up q.1 k true, q.2 ++ [stp who 11 fr k])) w3) := Lib.hid (MGo.comp f2 o2 hG3)
      clear hG3 m2 f2 o2 HP hl1 hf1 hc1
      go_wp2
      exact bodyPost_ret (v := .tuple #[]) (by simp [results, Try.results33, go_sem]) rfl (ret_of HE.out HF.out)
def oC (me : Int) (name : ByteArray) (mode flags : Int) : Stp := ⟨me, 5, mode, flags, if flags = 0 then 0 else 438, name⟩
set_option maxRecDepth 100000 in
theorem file_any (W : World) (B g p : Nat) (v : Value) (who : Int) (name : ByteArray) (to mode flags : Int) (q : Pst) (h : Mk W B g p v who q) (hl : q.2.length ≤ 8000) (hq : Low q.1) (hto : 0 ≤ to ∧ to < 8) :
    Calls Try.prog 34 #[.pointer (some ⟨g, 0, none⟩), .string name, .int .i64 to, .int .i64 mode, .int .i64 flags] W (RetG W B g p v who (fileF who name to mode flags q)) := by
  have HS := Lib.hid (shut_any W B g p v who to q h (by omega) hq hto.2)
  have hlen1 := shutF_len who to q
  have hc1 := shutF_cnt (me := who) (q := q) hto
  have hq1 := shutF_low (me := who) (n := to) hq
  have hE : fileF who name to mode flags q = turnF who (lst (shutF who to q).1) to (takeF ((shutF who to q).1, (shutF who to q).2 ++ [oC who name mode flags])) := rfl
  generalize shutF who to q = q1 at *
  obtain ⟨d, hd⟩ : ∃ d : Int, (if flags = 0 then (0 : Int) else 438) = d := ⟨_, rfl⟩
  have HE : Hid (fileF who name to mode flags q = turnF who (lst q1.1) to (takeF (q1.1, q1.2 ++ [⟨who, 5, mode, flags, d, name⟩]))) := Lib.hid (by rw [hE]; unfold oC; rw [hd])
  clear h hE
  go_enter Try.func34, Try.ntmps34
  go_wp2_with fail
  refine HS.out.mono ?_
  rintro e w1 ⟨rfl, v1, m1, f1, o1⟩
  have HM1 := Lib.hid m1
  have HF1 := Lib.hid f1
  have HO1 := Lib.hid o1
  have H2 : Hid (∀ w2, Below w1.heap.size w1 w2 → Calls Try.prog 15 #[.pointer (some ⟨g, 0, none⟩), .agg #[.int .i64 5, .int .i64 mode, .int .i64 flags, .int .i64 d, .string name, .string ByteArray.empty, .slice none 0 0]] w2 fun e w' => e = .returned (.tuple #[]) ∧ MGo W B g p v who (q1.1, q1.2 ++ [⟨who, 5, mode, flags, d, name⟩]) w') := Lib.hid (fun w2 hb => by
    obtain ⟨v2, m2, f2, o2⟩ := MGo.comp f1 o1 (m1.grown hb)
    refine (step_any w2 B g p v2 who q1 5 mode flags d name m2 (by omega)).mono ?_
    rintro e w3 ⟨rfl, hG⟩
    exact ⟨rfl, MGo.comp f2 o2 hG⟩)
  clear m1 f1 o1 HS
  by_cases hf : flags = 0
  · subst hf
    obtain rfl : d = 0 := by simpa using hd.symm
    go_wp2_with fail
    refine (H2.out _ ?_).mono ?_
    · exact (Below.refl _ _).alloc (Nat.le_refl _) _
    rintro e w3 ⟨rfl, v3, m3, f3, o3⟩
    clear H2 HM1 HF1 HO1
    go_wp2_with fail
    refine (least_any w3 B g p v3 who _ m3 hc1).mono ?_
    rintro e w4 ⟨rfl, hG4⟩
    obtain ⟨v4, m4, f4, o4⟩ := MGo.comp f3 o3 hG4
    clear m3 f3 o3 hG4
    dsimp only at m4 ⊢
    go_wp2_with fail
    refine (turn_any w4 B g p v4 who (lst q1.1) to _ m4 (by simp [takeF]; omega) (takeF_low (q := (q1.1, _)) hq1 hc1) (lst_is hc1).2.1 hto).mono ?_
    rintro e w5 ⟨rfl, hG5⟩
    have HP := Lib.hid (MGo.comp f4 o4 hG5)
    clear m4 f4 o4 hG5
    go_wp2
    exact bodyPost_ret (v := .tuple #[]) (by simp [results, Try.results34, go_sem]) rfl (ret_of HE.out HP.out)
  · obtain rfl : d = 438 := by rw [if_neg hf] at hd; exact hd.symm
    have hfb : (flags != 0) = true := by simpa using hf
    go_wp2_with fail
    refine (H2.out _ ?_).mono ?_
    · exact (Below.refl _ _).alloc (Nat.le_refl _) _
    rintro e w3 ⟨rfl, v3, m3, f3, o3⟩
    clear H2 HM1 HF1 HO1
    go_wp2_with fail
    refine (least_any w3 B g p v3 who _ m3 hc1).mono ?_
    rintro e w4 ⟨rfl, hG4⟩
    obtain ⟨v4, m4, f4, o4⟩ := MGo.comp f3 o3 hG4
    clear m3 f3 o3 hG4
    dsimp only at m4 ⊢
    go_wp2_with fail
    refine (turn_any w4 B g p v4 who (lst q1.1) to _ m4 (by simp [takeF]; omega) (takeF_low (q := (q1.1, _)) hq1 hc1) (lst_is hc1).2.1 hto).mono ?_
    rintro e w5 ⟨rfl, hG5⟩
    have HP := Lib.hid (MGo.comp f4 o4 hG5)
    clear m4 f4 o4 hG5
    go_wp2
    exact bodyPost_ret (v := .tuple #[]) (by simp [results, Try.results34, go_sem]) rfl (ret_of HE.out HP.out)
/-- Behind a child: its own maker is forgotten, the steps have grown. -/
def CGo (w : World) (B g p : Nat) (v : Value) (who : Int) (q : Pst) (w' : World) : Prop :=
  ∃ v', Mk w' B g p v' who q ∧ Fr (fun k => k = p ∨ v.ownBlock = some k) w w' ∧ ∀ k, v'.ownBlock = some k → v.ownBlock = some k ∨ w.heap.size ≤ k
/-- A command in memory. -/
structure Sm (w : World) (B : Nat) (A : Option Addr) (n : Nat) (ts : List ByteArray) (s : Smp) : Prop where
  rd : Reads w B 1 A n (ts.map Value.string)
  len : s.n = n
  a0 : s.a0 = ts.getD 0 ByteArray.empty
  pos : 0 < n
end Go.Proofs.Ytjeclmkdojnflaa
