/- Contract of begin. -/
import Derived.Test.YtjeclmkdojnflaaPlE
namespace Go.Proofs.Ytjeclmkdojnflaa
open Go.RowKit
set_option maxHeartbeats 400000
set_option linter.unusedVariables false
set_option linter.unusedSimpArgs false
/-- A command as it lies in memory. -/
structure Sp where
  A : Option Addr
  n : Nat
  c : Nat
  ts : List ByteArray
  sin : ByteArray
  sout : ByteArray
  more : Bool
def Sp.zero : Sp := ⟨none, 0, 0, [], ByteArray.empty, ByteArray.empty, false⟩
def Sp.cells (r : Sp) : List Value := [.slice r.A r.n r.c, .string r.sin, .string r.sout, .bool r.more]
def Sp.s (r : Sp) : Smp := ⟨r.n, r.ts.getD 0 ByteArray.empty, r.sin, r.sout, r.more⟩
def Sp.Fine (w : World) (B : Nat) (r : Sp) : Prop := Reads w B 1 r.A r.n (r.ts.map Value.string) ∧ r.n ≤ r.c
/-- Commands. -/
def RP (w : World) (B : Nat) (A : Option Addr) (n : Nat) (rs : List Sp) : Prop := RS Sp.cells 4 w B A n rs ∧ ∀ r ∈ rs, r.Fine w B
theorem RP.below' {w w' : World} {B B' n : Nat} {A : Option Addr} {rs : List Sp} (h : RP w B A n rs) (hb : Below B' w w') (hB : B ≤ B') : RP w' B A n rs := ⟨h.1.below' hb hB, fun r hr => ⟨(h.2 r hr).1.below' hb hB, (h.2 r hr).2⟩⟩
theorem RP.len {w : World} {B n : Nat} {A : Option Addr} {rs : List Sp} (h : RP w B A n rs) : rs.length = n := h.1.2
/-- One of them. -/
theorem RP.at_ {w : World} {B n i : Nat} {A : Option Addr} {rs : List Sp} (h : RP w B A n rs) (hi : i < n) : ∃ b o, A = some ⟨b, o, none⟩ ∧ b < B ∧ (rs.getD i Sp.zero).Fine w B ∧ rs[i]? = some (rs.getD i Sp.zero) ∧
    w.cell? ⟨b, o + i * 4, none⟩ = some (.slice (rs.getD i Sp.zero).A (rs.getD i Sp.zero).n (rs.getD i Sp.zero).c) ∧ w.cell? ⟨b, o + i * 4 + 1, none⟩ = some (.string (rs.getD i Sp.zero).sin) ∧ w.cell? ⟨b, o + i * 4 + 2, none⟩ = some (.string (rs.getD i Sp.zero).sout) ∧ w.cell? ⟨b, o + i * 4 + 3, none⟩ = some (.bool (rs.getD i Sp.zero).more) := by
  obtain ⟨b, o, e, hb, hm, hc⟩ := h.1.at_ (cl := Sp.cells) (s := 4) (fun _ => rfl) Sp.zero hi
  have hl : i < rs.length := by rw [h.len]; exact hi
  have e1 : rs.getD i Sp.zero = rs[i] := by simp [List.getD, List.getElem?_eq_getElem hl]
  exact ⟨b, o, e, hb, h.2 _ hm, by rw [e1]; exact List.getElem?_eq_getElem hl, hc 0 _ rfl, hc 1 _ rfl, hc 2 _ rfl, hc 3 _ rfl⟩
/-- The first word of a command. -/
theorem Sp.Fine.first {w : World} {B : Nat} {r : Sp} (h : r.Fine w B) (h0 : 0 < r.n) : ∃ b o, r.A = some ⟨b, o, none⟩ ∧ b < B ∧ w.cell? ⟨b, o, none⟩ = some (.string r.s.a0) := by
  obtain ⟨b, o, u, e, hb, hu, hc⟩ := h.1.at_ h0
  refine ⟨b, o, e, hb, ?_⟩
  rw [show o = o + 0 from rfl, hc]
  rw [List.getElem?_map] at hu
  cases ht : r.ts[0]? with
  | none => rw [ht] at hu; cases hu
  | some t => rw [ht] at hu; simp at hu; subst hu; simp [Sp.s, List.getD_eq_getElem?_getD, ht]
def cntTo (S : Fds) : Nat → Nat
  | 0 => 0
  | k + 1 => cntTo S k + if S k then 0 else 1
theorem cntTo_all (S : Fds) : cntTo S 8 = cnt S := by
  simp only [cntTo, cnt, Nat.zero_add]
  rfl
theorem opened_snoc (S : Fds) (os : List Int) (x : Int) : opened S (os ++ [x]) = up (opened S os) x true := by simp [opened, List.foldl_append]
theorem opened_low {os : List Int} {S : Fds} (hS : Low S) (h : ∀ x ∈ os, 0 ≤ x ∧ x < 8) : Low (opened S os) := by
  induction os generalizing S with
  | nil => exact hS
  | cons a os ih => exact ih (hS.up (h a List.mem_cons_self) true) (fun x hx => h x (List.mem_cons_of_mem _ hx))
theorem Mk.put' {W : World} {B g p : Nat} {v : Value} {who : Int} {q : Pst} (h : Mk W B g p v who q) {k : Nat} (hk : k < 8) (x : Bool) : Mk (W.setCell ⟨g, 2 + k, none⟩ (.bool x)) B g p v who (up q.1 k x, q.2) := by
  have hf : Fr (fun i => i = g) W (W.setCell ⟨g, 2 + k, none⟩ (.bool x)) := (Fr.refl (fun i => i = g) W).setCell (p := ⟨g, 2 + k, none⟩) (fun _ => rfl) _
  refine ⟨?_, h.sb.fr hf (blk_ne h.sb h.mb (by decide)), h.row.fr hf (fun j hj e => row_blk h.row h.mb (by decide) (e ▸ hj)), h.lg, h.lp⟩
  have := h.mb.set (2 + k) (.bool x)
  rwa [mkC_set p who q.1 hk] at this
def BegRet (W : World) (N : Nat) (ss : List Smp) (os : List Int) (e : Ending) (w' : World) : Prop :=
  Below W.heap.size W w' ∧ ((planErr N ss os ≠ 0 ∧ e = .returned (.tuple #[.pointer none, .int .i64 (planErr N ss os)])) ∨
    (planErr N ss os = 0 ∧ ∃ g p v, e = .returned (.tuple #[.pointer (some ⟨g, 0, none⟩), .int .i64 0]) ∧ Mk w' W.heap.size g p v 0 (opened (fun _ => false) os, [])))
theorem beg_bad {W w' : World} {N : Nat} {ss : List Smp} {os : List Int} {x : Int} (h : planErr N ss os = x) (hx : x ≠ 0) (hb : Below W.heap.size W w') : BegRet W N ss os (.returned (.tuple #[.pointer none, .int .i64 x])) w' := by
  subst h; exact ⟨hb, .inl ⟨hx, rfl⟩⟩
theorem err_arg {N : Nat} {ss : List Smp} {os : List Int} (h : N < 1 ∨ 6 < N) : planErr N ss os = 1 := by unfold planErr; rw [if_pos h]
theorem err_open {N : Nat} {ss : List Smp} {os : List Int} (h : ¬ (N < 1 ∨ 6 < N)) {k : Nat} (hk : k < os.length) (hx : os.getD k 0 < 0 ∨ 8 ≤ os.getD k 0) : planErr N ss os = 1 := by
  unfold planErr
  rw [if_neg h, if_pos]
  unfold badO
  rw [List.any_eq_true]
  have e1 : os.getD k 0 = os[k] := by simp [List.getD, List.getElem?_eq_getElem hk]
  exact ⟨os[k], List.getElem_mem hk, by rw [← e1]; simpa using hx⟩
theorem good_open {os : List Int} (h : ∀ j, j < os.length → 0 ≤ os.getD j 0 ∧ os.getD j 0 < 8) : badO os = false := by
  unfold badO
  rw [List.any_eq_false]
  intro x hx
  obtain ⟨j, hj, rfl⟩ := List.getElem_of_mem hx
  have := h j hj
  have e1 : os.getD j 0 = os[j] := by simp [List.getD, List.getElem?_eq_getElem hj]
  rw [e1] at this
  simp; omega
theorem err_form {N : Nat} {ss : List Smp} {os : List Int} (h : ¬ (N < 1 ∨ 6 < N)) (ho : badO os = false) {k : Nat} {s : Smp} (hs : ss[k]? = some s) (hb : s.bad = true) : planErr N ss os = 3 := by
  unfold planErr
  rw [if_neg h, if_neg (by simp [ho]), if_pos]
  rw [List.any_eq_true]
  exact ⟨s, List.mem_of_getElem? hs, hb⟩
theorem err_end {N : Nat} {ss : List Smp} {os : List Int} (h : ¬ (N < 1 ∨ 6 < N)) (ho : badO os = false) (hs : ∀ (j : Nat) (s : Smp), ss[j]? = some s → s.bad = false) : planErr N ss os = if cnt (opened (fun _ => false) os) < 4 then 6 else 0 := by
  unfold planErr
  rw [if_neg h, if_neg (by simp [ho]), if_neg]
  simp only [List.any_eq_true, not_exists, not_and]
  intro s hm hb
  obtain ⟨j, hj⟩ := List.getElem?_of_mem hm
  rw [hs j s hj] at hb; cases hb
theorem run_index55 (w : World) (cs : Array Value) (j : Nat) (b : Bool) (hj : j < 8) (h : cs[j]? = some (.bool b)) : (Instr.index 55 (.agg cs) (.int .i64 j)).run Try.prog w = .ok (.bool b) w := by
  have h0 : (0 : Int) ≤ j ∧ (j : Int) < (8 : Nat) := by omega
  simp [Instr.index, run_underlying Try.underlying55, asIntOf, h0, go_sem, part, h]
  intro h64
  omega
theorem arr_at (S : Fds) {m : Nat} (h : m < 8) : (#[Value.bool (S 0), .bool (S 1), .bool (S 2), .bool (S 3), .bool (S 4), .bool (S 5), .bool (S 6), .bool (S 7)] : Array Value)[m]? = some (.bool (S m)) := by
  rcases (by omega : m = 0 ∨ m = 1 ∨ m = 2 ∨ m = 3 ∨ m = 4 ∨ m = 5 ∨ m = 6 ∨ m = 7) with rfl | rfl | rfl | rfl | rfl | rfl | rfl | rfl <;> rfl
theorem cntTo_le (S : Fds) : ∀ m, cntTo S m ≤ m
  | 0 => Nat.le_refl _
  | m + 1 => by
    have := cntTo_le S m
    simp only [cntTo]
    split <;> omega
def st0 (os : List Int) (k : Nat) : Pst := (opened (fun _ => false) (os.take k), [])
theorem st0_succ {os : List Int} {k : Nat} (hk : k < os.length) : st0 os (k + 1) = (up (st0 os k).1 (os.getD k 0) true, (st0 os k).2) := by
  have e1 : os.getD k 0 = os[k] := by simp [List.getD, List.getElem?_eq_getElem hk]
  unfold st0
  rw [List.take_succ_eq_append_getElem hk, opened_snoc, e1]
/-- The maker at first. -/
def begW (W : World) : World := ((W.alloc (.cells #[] 32)).alloc (.cells #[.slice (some ⟨W.heap.size, 0, none⟩) 0 0] 24)).alloc (.cells (mkC (W.heap.size + 1) 0 (fun _ => false)) 57)
theorem begW_mk (W : World) : Mk (begW W) W.heap.size (W.heap.size + 1 + 1) (W.heap.size + 1) (.slice (some ⟨W.heap.size, 0, none⟩) 0 0) 0 (fun _ => false, []) := by
  have hs1 : (W.alloc (.cells #[] 32)).heap.size = W.heap.size + 1 := by simp
  have hs2 : ((W.alloc (.cells #[] 32)).alloc (.cells #[.slice (some ⟨W.heap.size, 0, none⟩) 0 0] 24)).heap.size = W.heap.size + 1 + 1 := by simp
  refine ⟨?_, ?_, ?_, by omega, by omega⟩
  · have := Blk.new ((W.alloc (.cells #[] 32)).alloc (.cells #[.slice (some ⟨W.heap.size, 0, none⟩) 0 0] 24)) (mkC (W.heap.size + 1) 0 (fun _ => false)) 57
    rw [hs2] at this
    exact this
  · have := (Blk.new (W.alloc (.cells #[] 32)) #[.slice (some ⟨W.heap.size, 0, none⟩) 0 0] 24).alloc (.cells (mkC (W.heap.size + 1) 0 (fun _ => false)) 57)
    rw [hs1] at this
    exact this
  · have hb : Blk (begW W) W.heap.size #[] 32 := ((Blk.new W #[] 32).alloc _).alloc _
    exact ⟨rfl, .inr ⟨W.heap.size, 0, 0, #[], rfl, Nat.le_refl _, hb, by simp, by simp, by simp, fun j u hu => by simp at hu⟩⟩
theorem begW_below (W : World) : Below W.heap.size W (begW W) := (((Below.refl _ _).alloc (Nat.le_refl _) _).alloc (by simp) _).alloc (by simp; omega) _
theorem Mk.alloc {W : World} {B g p : Nat} {v : Value} {who : Int} {q : Pst} (h : Mk W B g p v who q) (o : Obj) : Mk (W.alloc o) B g p v who q := h.grow ((Below.refl _ _).alloc (Nat.le_refl _) _)
set_option maxHeartbeats 2000000 in
set_option maxRecDepth 100000 in
theorem begin_any (A : Option Addr) (n c : Nat) (rs : List Sp) (A1 : Option Addr) (n1 c1 : Nat) (os : List Int) (W : World) (h : RP W W.heap.size A n rs) (ho : RI .i64 W W.heap.size A1 n1 os) (hn1 : n1 ≤ 9223372036854775807) :
    Calls Try.prog 14 #[.slice A n c, .slice A1 n1 c1] W (BegRet W n (rs.map Sp.s) os) := by
  have HL := Lib.hid h.len
  have HO := Lib.hid ho.len
  by_cases hn : n < 1 ∨ 6 < n
  · have HE := Lib.hid (err_arg (ss := rs.map Sp.s) (os := os) hn)
    go_enter Try.func14, Try.ntmps14
    rcases hn with hn | hn
    · obtain rfl : n = 0 := by omega
      go_wp2
      go_ret2
      exact beg_bad HE.out (by decide) (Below.refl _ _)
    · have hd : decide ((n : Int) < 1) = false := by simp; omega
      have hd2 : decide ((6 : Int) < n) = true := by simp; omega
      go_wp2
      go_ret2
      exact beg_bad HE.out (by decide) (Below.refl _ _)
  · have HN := Lib.hid hn
    have hd : decide ((n : Int) < 1) = false := by simp; omega
    have hd2 : decide ((6 : Int) < n) = false := by simp; omega
    clear hn
    go_enter Try.func14, Try.ntmps14
    go_wp2_with fail
    have H0 : Mk (begW W) W.heap.size (W.heap.size + 1 + 1) (W.heap.size + 1) (.slice (some ⟨W.heap.size, 0, none⟩) 0 0) 0 (st0 os 0) := begW_mk W
    have HB0 := begW_below W
    unfold begW mkC at H0 HB0
    obtain ⟨p, hp⟩ : ∃ p, W.heap.size + 1 = p := ⟨_, rfl⟩
    obtain ⟨g, hg⟩ : ∃ g, p + 1 = g := ⟨_, rfl⟩
    rw [hp] at H0 HB0 ⊢
    rw [hg] at H0 ⊢
    obtain ⟨v, H0⟩ : ∃ v, Mk _ W.heap.size g p v 0 (st0 os 0) := ⟨_, H0⟩
    dsimp only at H0 HB0
    have H1 := Lib.hid H0
    have HB1 := Lib.hid HB0
    clear hp hg H0 HB0
    go_loopw [28] (fun i wr => ∃ k : Nat, i = .int .i64 k ∧ k ≤ n1 ∧ (∀ j : Nat, j < k → 0 ≤ os.getD j 0 ∧ os.getD j 0 < 8) ∧ Mk wr W.heap.size g p v 0 (st0 os k) ∧ Below W.heap.size W wr) (fun i _ => n1 - (intOf i).toNat)
    case atStart => exact ⟨0, rfl, by omega, fun j hj => by omega, H1.out, HB1.out⟩
    case round =>
      obtain ⟨k, rfl, hk, hgood, hM, hB⟩ := hrel
      clear H1 HB1
      have HG := Lib.hid hgood
      have HM := Lib.hid hM
      have HB := Lib.hid hB
      clear hgood hM hB
      by_cases hlt : k < n1
      · obtain ⟨b, o, rfl, hb, hcell, hrg⟩ := (ho.below' HB.out (Nat.le_refl _)).at_ hlt
        have hkn : (k : Int) < n1 := by omega
        have hbw : b < wr.heap.size := by have := HB.out.size; omega
        have HU := Lib.hid (st0_succ (os := os) (k := k) (by rw [HO.out]; exact hlt))
        have HX : Hid (∃ y, os.getD k 0 = y) := Lib.hid ⟨_, rfl⟩
        obtain ⟨y, hy⟩ := HX.out
        rw [hy] at hcell HU
        have HY := Lib.hid hy
        clear hy HX hrg
        by_cases h0 : y < 0
        · have HE := Lib.hid (err_open (ss := rs.map Sp.s) HN.out (k := k) (by rw [HO.out]; exact hlt) (.inl (by rw [HY.out]; exact h0)))
          have hd0 : decide (y < 0) = true := by simpa using h0
          go_wp2
          go_ret2
          exact beg_bad HE.out (by decide) HB.out
        · by_cases h8 : 8 ≤ y
          · have HE := Lib.hid (err_open (ss := rs.map Sp.s) HN.out (k := k) (by rw [HO.out]; exact hlt) (.inr (by rw [HY.out]; exact h8)))
            have hd0 : decide (y < 0) = false := by simpa using h0
            have hd8 : decide (8 ≤ y) = true := by simpa using h8
            go_wp2
            go_ret2
            exact beg_bad HE.out (by decide) HB.out
          · have hd0 : decide (y < 0) = false := by simpa using h0
            have hd8 : decide (8 ≤ y) = false := by simpa using h8
            obtain ⟨z, rfl⟩ : ∃ z : Nat, y = z := ⟨y.toNat, by omega⟩
            have hz8 : z < 8 := by omega
            have hz8' : (z : Int) < 8 := by omega
            have hlg := HM.out.mb.lt
            have hck := (HM.out.mb.cell (2 + z)).trans (mkC_at p 0 (st0 os k).1 hz8)
            have hfk := HM.out.mb.free (2 + z)
            have HP := Lib.hid (HM.out.put' hz8 true)
            rw [← HU.out] at HP
            have HB2 : Hid (Below W.heap.size W (wr.setCell ⟨g, 2 + z, none⟩ (.bool true))) := Lib.hid (HB.out.setCell (p := ⟨g, 2 + z, none⟩) HM.out.lg _)
            go_wp2
            go_roundw
            case rel => exact ⟨k + 1, by go_num, by omega, fun j hj => by
              rcases (by omega : j < k ∨ j = k) with h | rfl
              · exact HG.out j h
              · rw [HY.out]; omega, HP.out, HB2.out⟩
            case measure => simp [intOf]; omega
      · obtain rfl : k = n1 := by omega
        have HGO := Lib.hid (good_open (os := os) (fun j hj => HG.out j (by rw [← HO.out]; exact hj)))
        clear HG
        go_wp2_with fail
        have H0 := Lib.hid (⟨HM.out, HB.out⟩ : Mk wr W.heap.size g p v 0 (st0 os k) ∧ Below W.heap.size W wr)
        have HM0 := HM
        clear HM HB
        go_loopw [46] (fun i w2 => ∃ j : Nat, i = .int .i64 j ∧ j ≤ n ∧ (∀ (m : Nat) (s : Smp), m < j → (rs.map Sp.s)[m]? = some s → s.bad = false) ∧ Mk w2 W.heap.size g p v 0 (st0 os k) ∧ Below W.heap.size W w2) (fun i _ => n - (intOf i).toNat)
        case atStart => exact ⟨0, rfl, by omega, fun m s hm => by omega, H0.out.1, H0.out.2⟩
        case round =>
          obtain ⟨j, rfl, hj, hgood, hM, hB⟩ := hrel
          clear H0
          have HG := Lib.hid hgood
          have HM := Lib.hid hM
          have HB := Lib.hid hB
          clear hgood hM hB
          have hn6 : n ≤ 6 := by have := HN.out; omega
          by_cases hjn : j < n
          · obtain ⟨b, o, rfl, hb, hf, hget, c0, c1, c2, c3⟩ := (h.below' HB.out (Nat.le_refl _)).at_ hjn
            have HGT : Hid ((rs.map Sp.s)[j]? = some (rs.getD j Sp.zero).s) := Lib.hid (by rw [List.getElem?_map, hget]; rfl)
            clear hget
            generalize rs.getD j Sp.zero = r at *
            have hjn' : (j : Int) < n := by omega
            have hbw : b < wr.heap.size := by have := HB.out.size; omega
            have HB2 : Hid (Below W.heap.size W (wr.alloc (.cells #[.slice r.A r.n r.c, .string r.sin, .string r.sout, .bool r.more] 49))) := Lib.hid (HB.out.alloc HB.out.size _)
            have HM2 := Lib.hid (HM.out.alloc (.cells #[.slice r.A r.n r.c, .string r.sin, .string r.sout, .bool r.more] 49))
            by_cases h0 : r.n = 0
            · have HE := Lib.hid (err_form HN.out HGO.out HGT.out (by simp [Smp.bad, Sp.s, h0]))
              rw [h0] at c0 HB2
              go_wp2
              go_ret2
              exact beg_bad HE.out (by decide) HB2.out
            · have e0 : (((r.n : Nat) : Int) == 0) = false := by simpa using h0
              have hnp : (0 : Int) < r.n := by omega
              obtain ⟨ba, oa, hA, hba, hca⟩ := hf.first (by omega)
              rw [hA] at c0 HB2 HM2
              clear hf hA
              have hba2 : ba < wr.heap.size := by have := HB.out.size; omega
              obtain ⟨t, ht⟩ : ∃ t, r.s.a0 = t := ⟨_, rfl⟩
              rw [ht] at hca
              by_cases ht0 : t.size = 0
              · have HE := Lib.hid (err_form HN.out HGO.out HGT.out (by simp [Smp.bad, ht, ht0]))
                have et : t.toList.isEmpty = true := by rw [text_empty]; simpa using ht0
                have HET := Lib.hid et
                clear et ht ht0
                go_upto_if 60 with (fail)
                rw [HET.out]
                go_wp2
                go_ret2
                exact beg_bad HE.out (by decide) HB2.out
              · have HNB : Hid (r.s.bad = false) := Lib.hid (by
                  have : r.s.n = r.n := rfl
                  simp [Smp.bad, ht, ht0, this, h0])
                have et : t.toList.isEmpty = false := by rw [text_empty]; simpa using ht0
                have HET := Lib.hid et
                clear et ht ht0
                go_upto_if 60 with (fail)
                rw [HET.out]
                go_wp2
                go_roundw
                case rel => exact ⟨j + 1, by go_num, by omega, fun m s hm hs => by
                  rcases (by omega : m < j ∨ m = j) with h | rfl
                  · exact HG.out m s h hs
                  · rw [HGT.out] at hs; injection hs with hs; rw [← hs]; exact HNB.out, HM2.out, HB2.out⟩
                case measure => simp [intOf]; omega
          · obtain rfl : j = n := by omega
            have HES := Lib.hid (err_end HN.out HGO.out (fun m s hs => HG.out m s (by
              have := (List.getElem?_eq_some_iff.1 hs).1
              simp at this; rw [← HL.out]; exact this) hs))
            have hS : (st0 os k).1 = opened (fun _ => false) os := by unfold st0; rw [← HO.out, List.take_length]
            have q0 := (HM.out.mb.cell 2).trans (mkC_at p 0 (st0 os k).1 (k := 0) (by decide))
            have q1 := (HM.out.mb.cell 3).trans (mkC_at p 0 (st0 os k).1 (k := 1) (by decide))
            have q2 := (HM.out.mb.cell 4).trans (mkC_at p 0 (st0 os k).1 (k := 2) (by decide))
            have q3 := (HM.out.mb.cell 5).trans (mkC_at p 0 (st0 os k).1 (k := 3) (by decide))
            have q4 := (HM.out.mb.cell 6).trans (mkC_at p 0 (st0 os k).1 (k := 4) (by decide))
            have q5 := (HM.out.mb.cell 7).trans (mkC_at p 0 (st0 os k).1 (k := 5) (by decide))
            have q6 := (HM.out.mb.cell 8).trans (mkC_at p 0 (st0 os k).1 (k := 6) (by decide))
            have q7 := (HM.out.mb.cell 9).trans (mkC_at p 0 (st0 os k).1 (k := 7) (by decide))
            have hlg := HM.out.mb.lt
            rw [hS] at q0 q1 q2 q3 q4 q5 q6 q7
            have HFIN : Hid (Mk wr W.heap.size g p v 0 (opened (fun _ => false) os, [])) := Lib.hid (by have := HM.out; unfold st0 at this; rw [← HO.out, List.take_length] at this; exact this)
            clear HG HM HM0 hS
            obtain ⟨S, hSS⟩ : ∃ S, opened (fun _ => false) os = S := ⟨_, rfl⟩
            rw [hSS] at q0 q1 q2 q3 q4 q5 q6 q7 HES HFIN
            have HSE := Lib.hid hSS
            clear hSS
            go_wp2_with fail
            go_loop [11, 66] (fun f i => ∃ m : Nat, i = .int .i64 m ∧ m ≤ 8 ∧ f = .int .i64 (cntTo S m)) (fun _ i => 8 - (intOf i).toNat)
            case atStart => exact ⟨0, rfl, by omega, rfl⟩
            case round =>
              obtain ⟨m, rfl, hm, rfl⟩ := hrel
              have hcl := cntTo_le S m
              by_cases hm8 : m < 8
              · have hix := run_index55 wr _ m _ hm8 (arr_at S hm8)
                have hm8' : (m : Int) < 8 := by omega
                have HCS : Hid (cntTo S (m + 1) = cntTo S m + if S m then 0 else 1) := Lib.hid rfl
                generalize cntTo S m = a at *
                generalize S m = x at *
                cases x
                · go_wp2
                  go_round
                  case rel => exact ⟨m + 1, by go_num, by omega, by rw [HCS.out]; rfl⟩
                  case measure => simp [intOf]; omega
                · go_wp2
                  go_round
                  case rel => exact ⟨m + 1, by go_num, by omega, by rw [HCS.out]; rfl⟩
                  case measure => simp [intOf]; omega
              · obtain rfl : m = 8 := by omega
                rw [cntTo_all]
                by_cases h4 : cnt S < 4
                · have HE : Hid (planErr j (rs.map Sp.s) os = 6) := Lib.hid (by rw [HES.out, if_pos h4])
                  have hd4 : decide ((cnt S : Int) < 4) = true := by simp; omega
                  go_wp2
                  go_ret2
                  exact beg_bad HE.out (by decide) HB.out
                · have HE : Hid (planErr j (rs.map Sp.s) os = 0) := Lib.hid (by rw [HES.out, if_neg h4])
                  have hd4 : decide ((cnt S : Int) < 4) = false := by simp; omega
                  go_wp2
                  go_ret2
                  exact ⟨HB.out, .inr ⟨HE.out, g, p, v, rfl, by rw [HSE.out]; exact HFIN.out⟩⟩
end Go.Proofs.Ytjeclmkdojnflaa
