/- One end of a stream: contracts of Write and Read. -/
import Derived.Test.YthlhjaacjhlkhaaStD
import Derived.Test.YthlhjaacjhlkhaaPpE
namespace Go.Proofs.Ythlhjaacjhlkhaa
open Go.RowKit
set_option maxHeartbeats 400000
set_option linter.unusedVariables false
set_option linter.unusedSimpArgs false
def stWE (x : EC) (l n : Nat) : Int := if 256 < n then 1 else if x.st = 5 then 10 else if begunB x = false ∨ x.shut = true then 8 else if 0 < n ∧ l = 64 then 9 else 0
def stWN (x : EC) (l n : Nat) : Nat := if stWE x l n = 0 then min n (64 - l) else 0
def stWX (x : EC) (xs ds : List Int) : List Int := if stWE x xs.length ds.length = 0 then xs ++ ds.take (min ds.length (64 - xs.length)) else xs
def WrP (n er : Int) (w : World) (B g : Nat) (vo vi : Value) (x' : EC) (xs' ys' : List Int) (e : Ending) (w' : World) : Prop := e = .returned (.tuple #[.int .i64 n, .int .i64 er]) ∧ EGo w B g vo vi x' xs' ys' w'
section
variable {w : World} {B g : Nat} {x : EC} {vo vi : Value} {xs ys : List Int}
theorem ESt.rowBlk (h : ESt w B g x vo vi xs ys) : ¬ vo.ownBlock = some g ∧ ¬ vi.ownBlock = some g := ⟨Ob2.no h, Ob2.ni h⟩
set_option maxHeartbeats 1000000 in
set_option maxRecDepth 100000 in
theorem write41 (h : ESt w B g x vo vi xs ys) (hB : B ≤ w.heap.size) (hl : xs.length ≤ 64) (A : Option Addr) (n c : Nat) (ds : List Int) (hd : RB w w.heap.size A n ds) (hnc : n ≤ c) (hcm : c ≤ 9223372036854775807) :
    Calls Try.prog 41 #[.pointer (some ⟨g, 0, none⟩), .slice A n c] w (WrP (stWN x xs.length n) (stWE x xs.length n) w B g vo vi x (stWX x xs ds) ys) := by
  obtain ⟨i0, ii, hz0, hz1, hz2⟩ := info_parts pu8info
  have HS := Lib.hid (Ob2.same h (Below.refl _ w))
  have HB := Lib.hid (begun93 h)
  have HG := Lib.hid h
  have hln := hd.len
  unfold stWX
  rw [hln]
  obtain ⟨A0, c0, A', c', rfl, rfl, h1, h2, h3, h4⟩ := h.look
  have hc0 := (Ob2.blk h).cell 0
  have hc6 := (Ob2.blk h).cell 6
  have hc9 := (Ob2.blk h).cell 9
  rw [show (ecells x (.slice A0 xs.length c0) (.slice A' ys.length c'))[0]? = some (.int .i64 x.st) from rfl] at hc0
  rw [show (ecells x (.slice A0 xs.length c0) (.slice A' ys.length c'))[6]? = some (.slice A0 xs.length c0) from rfl] at hc6
  rw [show (ecells x (.slice A0 xs.length c0) (.slice A' ys.length c'))[9]? = some (.bool x.shut) from rfl] at hc9
  have hlt := (Ob2.blk h).lt
  have HROW := Lib.hid (Ob2.ro h)
  have HBY := Lib.hid (byt_app (Ob2.bo h) (byt_take hd.2 (min n (64 - xs.length))))
  clear h
  by_cases hn : 256 < n
  · have e1 : stWE x xs.length n = 1 := if_pos hn
    have e2 : stWN x xs.length n = 0 := by simp [stWN, e1]
    rw [e2, e1, if_neg (by decide)]
    have d1 : decide (256 < (n : Int)) = true := by simp; omega
    clear e1 e2 hn
    go_enter Try.func41, Try.ntmps41
    go_wp2
    go_ret2
    exact ⟨rfl, HS.out⟩
  have d1 : decide (256 < (n : Int)) = false := by simp; omega
  by_cases hs : x.st = 5
  · have e1 : stWE x xs.length n = 10 := by simp [stWE, hn, hs]
    have e2 : stWN x xs.length n = 0 := by simp [stWN, e1]
    rw [e2, e1, if_neg (by decide)]
    have d2 : (x.st == 5) = true := by simpa using hs
    generalize x.st = s at *
    clear e1 e2 hn hs
    go_enter Try.func41, Try.ntmps41
    go_wp2
    go_ret2
    exact ⟨rfl, HS.out⟩
  have d2 : (x.st == 5) = false := by simpa using hs
  cases hb : begunB x with
  | false =>
    have e1 : stWE x xs.length n = 8 := by simp [stWE, hn, hs, hb]
    have e2 : stWN x xs.length n = 0 := by simp [stWN, e1]
    rw [e2, e1, if_neg (by decide)]
    rw [hb] at HB
    generalize x.st = s at *
    clear e1 e2 hn hs hb
    go_enter Try.func41, Try.ntmps41
    go_wp2_with fail
    refine HB.out.mono ?_
    rintro e w' ⟨rfl, rfl⟩
    go_wp2
    go_ret2
    exact ⟨rfl, HS.out⟩
  | true =>
  rw [hb] at HB
  cases hsh : x.shut with
  | true =>
    have e1 : stWE x xs.length n = 8 := by simp [stWE, hn, hs, hsh]
    have e2 : stWN x xs.length n = 0 := by simp [stWN, e1]
    rw [e2, e1, if_neg (by decide)]
    rw [hsh] at hc9
    generalize x.st = s at *
    clear e1 e2 hn hs hb hsh
    go_enter Try.func41, Try.ntmps41
    go_wp2_with fail
    refine HB.out.mono ?_
    rintro e w' ⟨rfl, rfl⟩
    go_wp2
    go_ret2
    exact ⟨rfl, HS.out⟩
  | false =>
  rw [hsh] at hc9
  by_cases hw : 0 < n ∧ xs.length = 64
  · have e1 : stWE x xs.length n = 9 := by simp [stWE, hn, hs, hb, hsh, hw.1, hw.2]
    have e2 : stWN x xs.length n = 0 := by simp [stWN, e1]
    rw [e2, e1, if_neg (by decide)]
    have d3 : decide (0 < (n : Int)) = true := by simp; omega
    have d4 : ((xs.length : Int) == 64) = true := by simp; omega
    have hn0 : 0 < n := hw.1
    generalize x.st = s at *
    generalize xs.length = l at *
    clear e1 e2 hn hs hb hsh hw
    go_enter Try.func41, Try.ntmps41
    go_wp2_with fail
    refine HB.out.mono ?_
    rintro e w' ⟨rfl, rfl⟩
    go_wp2
    go_ret2
    exact ⟨rfl, HS.out⟩
  have e1 : stWE x xs.length n = 0 := by
    unfold stWE
    rw [if_neg hn, if_neg hs, if_neg (by simp [hb, hsh]), if_neg hw]
  have e2 : stWN x xs.length n = min n (64 - xs.length) := by simp [stWN, e1]
  rw [e2, e1, if_pos rfl]
  obtain ⟨nn, hnn⟩ : ∃ nn, min n (64 - xs.length) = nn := ⟨_, rfl⟩
  rw [hnn]
  have hmin : min (n : Int) (64 - (xs.length : Int)) = nn := by omega
  have hnnc : nn ≤ c := by omega
  have hnl : xs.length + nn ≤ 64 := by omega
  have hnn64 : nn ≤ n := by omega
  rw [hnn] at HBY
  have HRD := Lib.hid (by simpa using hd.1.take (k := nn) hnn64 : Reads w w.heap.size 1 A nn ((ds.map (Value.int .u8)).take nn))
  have HFIN : Hid (∀ w1 A1 c1 W, Fr (fun k => (Value.slice A0 xs.length c0).ownBlock = some k) w w1 → Row w1 B 5 1 (.slice A1 (xs.length + nn) c1) (xs.length + nn) (xs.map (Value.int .u8) ++ (ds.map (Value.int .u8)).take nn) →
      (∀ k, (Value.slice A1 (xs.length + nn) c1).ownBlock = some k → (Value.slice A0 xs.length c0).ownBlock = some k ∨ w.heap.size ≤ k) → (W = w1.setCell ⟨g, 6, none⟩ (.slice A1 (xs.length + nn) c1) ∨ W = (w1.setCell ⟨g, 6, none⟩ (.slice A1 (xs.length + nn) c1)).drew) →
      EGo w B g (.slice A0 xs.length c0) (.slice A' ys.length c') x (xs ++ ds.take nn) ys W) := Lib.hid (fun w1 A1 c1 W hf hr ho hW => by
    have el : (xs ++ ds.take nn).length = xs.length + nn := by rw [List.length_append, List.length_take]; omega
    have em : (xs ++ ds.take nn).map (Value.int .u8) = xs.map (Value.int .u8) ++ (ds.map (Value.int .u8)).take nn := by rw [List.map_append, List.map_take]
    have hb1 := (HG.out.blk.fr hf HG.out.no).set 6 (.slice A1 (xs.length + nn) c1)
    rcases hW with rfl | rfl
    · exact Ob2.setO HG.out hf (by rw [el, em]; exact hr) HBY.out ho ((Fr.refl (fun k => k = g) w1).setCell (p := ⟨g, 6, none⟩) (fun _ => rfl) _) hb1 (by simp [ecells])
    · exact Ob2.setO HG.out hf (by rw [el, em]; exact hr) HBY.out ho (((Fr.refl (fun k => k = g) w1).setCell (p := ⟨g, 6, none⟩) (fun _ => rfl) _).drew) hb1.drew (by simp [ecells]))
  have HK := Lib.hid (fun w1 (hf : Fr (fun k => (Value.slice A0 xs.length c0).ownBlock = some k) w w1) => (HG.out.blk.fr hf HG.out.no))
  have HONE := Lib.hid (u8_oneCell ds)
  have hd8 : Hid (∀ u ∈ (ds.map (Value.int .u8)).take nn, u.oneCell' = true) := Lib.hid (fun u hu => HONE.out u (List.mem_of_mem_take hu))
  generalize x.st = s at *
  generalize hl0 : xs.length = l at *
  generalize (ds.map (Value.int .u8)).take nn = news at *
  clear e1 e2 hn hs hb hsh hnn hd hln hl0
  rcases (by omega : n = 0 ∨ 0 < n) with hn0 | hn0
  · have hn1 : ¬ 0 < n := by omega
    clear hw hn0
    go_enter Try.func41, Try.ntmps41
    go_wp2_with fail
    refine HB.out.mono ?_
    rintro e w' ⟨rfl, rfl⟩
    go_wp2_with (refine wpList_min _ rfl (.tmp 40) (.tmp 46) 3 3 rfl (n : Int) (64 - (l : Int)) (nn : Int) rfl rfl hmin ?_)
    go_region_law (refine step_append_row rfl (.tmp 52) (.tmp 55) 23 rfl B 5 i0 (.int .u8 0) 1 1 Try.underlying23 ii hz0 hz1 hz2 rfl (by decide) (.slice A0 l c0) l (xs.map (Value.int .u8)) (by simp [Act.eval, Act.put]) HROW.out.drew w.heap.size A nn c news (by simp [Act.eval, Act.put]) HRD.out.drew hd8.out (by unfold maxLen; omega) (by omega) (by simpa using hB) ?_; intro A9 c9 w9 hr9 hg9 ho9; have hf9 : Fr (fun k => (Value.slice A0 l c0).ownBlock = some k) w w9 := ((Fr.refl _ w).drew).grown hg9 (fun k e _ => e); have kb9 := HK.out w9 hf9; have k96 : w9.cell? ⟨g, 6, none⟩ = some (.slice A0 l c0) := kb9.cell 6; have kl9 := kb9.lt; have kf9 := kb9.free 6)
    all_goals
      go_wp2
      go_ret2
      exact ⟨rfl, HFIN.out w9 A9 c9 _ hf9 hr9 (fun k hk => by rcases own_cases ho9 hk with h1 | h1; exact .inl h1; simp at h1; exact .inr (by omega)) (by first | exact .inl rfl | exact .inr rfl)⟩
  · have d4 : ((l : Int) == 64) = false := by rw [beq_eq_false_iff_ne]; omega
    clear hw
    go_enter Try.func41, Try.ntmps41
    go_wp2_with fail
    refine HB.out.mono ?_
    rintro e w' ⟨rfl, rfl⟩
    go_wp2_with (refine wpList_min _ rfl (.tmp 40) (.tmp 46) 3 3 rfl (n : Int) (64 - (l : Int)) (nn : Int) rfl rfl hmin ?_)
    go_region_law (refine step_append_row rfl (.tmp 52) (.tmp 55) 23 rfl B 5 i0 (.int .u8 0) 1 1 Try.underlying23 ii hz0 hz1 hz2 rfl (by decide) (.slice A0 l c0) l (xs.map (Value.int .u8)) (by simp [Act.eval, Act.put]) HROW.out.drew w.heap.size A nn c news (by simp [Act.eval, Act.put]) HRD.out.drew hd8.out (by unfold maxLen; omega) (by omega) (by simpa using hB) ?_; intro A9 c9 w9 hr9 hg9 ho9; have hf9 : Fr (fun k => (Value.slice A0 l c0).ownBlock = some k) w w9 := ((Fr.refl _ w).drew).grown hg9 (fun k e _ => e); have kb9 := HK.out w9 hf9; have k96 : w9.cell? ⟨g, 6, none⟩ = some (.slice A0 l c0) := kb9.cell 6; have kl9 := kb9.lt; have kf9 := kb9.free 6)
    all_goals
      go_wp2
      go_ret2
      exact ⟨rfl, HFIN.out w9 A9 c9 _ hf9 hr9 (fun k hk => by rcases own_cases ho9 hk with h1 | h1; exact .inl h1; simp at h1; exact .inr (by omega)) (by first | exact .inl rfl | exact .inr rfl)⟩
end
end Go.Proofs.Ythlhjaacjhlkhaa
