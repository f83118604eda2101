/- The reference's closures over a plan: do, free, shut, move. -/
import Derived.Test.YtjeclmkdojnflaaPlG
import Derived.Test.YtjeclmkdojnflaaTSet
namespace Go.Proofs.Ytjeclmkdojnflaa
open Go.RowKit
set_option maxHeartbeats 400000
set_option linter.unusedVariables false
set_option linter.unusedSimpArgs false
/-- The steps behind the variable 'out'. -/
structure Rs (w : World) (B po : Nat) (v : Value) (l : List Stp) : Prop where
  ob : Blk w po #[v] 24
  row : Row w B 32 8 v l.length (l.flatMap Stp.cells)
  lp : B ≤ po
def RF (po : Nat) (v : Value) (k : Nat) : Prop := k = po ∨ v.ownBlock = some k
def RGo (w : World) (B po : Nat) (v : Value) (l : List Stp) (w' : World) : Prop :=
  ∃ v', Rs w' B po v' l ∧ Fr (RF po v) w w' ∧ ∀ k, v'.ownBlock = some k → v.ownBlock = some k ∨ w.heap.size ≤ k
theorem Rs.lowF {w : World} {B po : Nat} {v : Value} {l : List Stp} (h : Rs w B po v l) : ∀ k, RF po v k → B ≤ k := fun k hk => by
  rcases hk with rfl | hk
  · exact h.lp
  · exact (h.row.lt k hk).1
theorem Rs.fr {F : Nat → Prop} {w w' : World} {B po : Nat} {v : Value} {l : List Stp} (h : Rs w B po v l) (hf : Fr F w w') (h1 : ¬ F po) (h2 : ∀ k, v.ownBlock = some k → ¬ F k) : Rs w' B po v l := ⟨h.ob.fr hf h1, h.row.fr hf h2, h.lp⟩
theorem Rs.grow {w w' : World} {B po : Nat} {v : Value} {l : List Stp} (h : Rs w B po v l) (hb : Below w.heap.size w w') : Rs w' B po v l := h.fr (Fr.of_grow hb) id (fun _ _ => id)
theorem Rs.app {W W' W1 : World} {B p : Nat} {v : Value} {l : List Stp} (h : Rs W B p v l) {c' : Nat} {A' : Option Addr} {x : Stp} (hb : Below W.heap.size W W') (hg : W'.grownBy W1 v.ownBlock) (hr : Row W1 B 32 8 (.slice A' (l.length + 1) c') (l.length + 1) (l.flatMap Stp.cells ++ x.cells))
    (ho : (Value.slice A' (l.length + 1) c').ownBlock = v.ownBlock ∨ (Value.slice A' (l.length + 1) c').ownBlock = some W'.heap.size) : RGo W B p v (l ++ [x]) (W1.setCell ⟨p, 0, none⟩ (.slice A' (l.length + 1) c')) := by
  have hf0 : Fr (fun k => v.ownBlock = some k) W W1 := ((Fr.of_grow hb).mono (fun _ _ e => e.elim)).grown hg (fun k e _ => e)
  have hs1 := h.ob.fr hf0 (row_blk h.row h.ob (by decide))
  have hf1 : Fr (fun k => k = p) W1 (W1.setCell ⟨p, 0, none⟩ (.slice A' (l.length + 1) c')) := (Fr.refl (fun k => k = p) W1).setCell (p := ⟨p, 0, none⟩) (fun _ => rfl) _
  have e : (l ++ [x]).length = l.length + 1 := by simp
  refine ⟨.slice A' (l.length + 1) c', ⟨?_, ?_, h.lp⟩, ?_, fun k hk => ?_⟩
  · have := hs1.set 0 (.slice A' (l.length + 1) c')
    simpa using this
  · rw [e, List.flatMap_append]
    have hr2 := hr.fr hf1 (fun k hk e => row_blk hr hs1 (by decide) (e ▸ hk))
    simpa using hr2
  · exact (hf0.mono (fun k _ e => .inr e)).trans hf1 (fun k _ e => .inl e)
  · rcases ho with e | e
    · exact .inl (e.symm.trans hk)
    · rw [e] at hk; injection hk with hk; have := hb.size; exact .inr (by omega)
def RetR (w : World) (B po : Nat) (v : Value) (l : List Stp) (e : Ending) (w' : World) : Prop := e = .returned (.tuple #[]) ∧ RGo w B po v l w'
set_option maxRecDepth 100000 in
theorem do_any (W : World) (B po : Nat) (v : Value) (l : List Stp) (who num a b : Int) (s : ByteArray) (h : Rs W B po v l) (hl : l.length ≤ 10000) :
    Calls Try.prog 19 #[.int .i64 who, .int .i64 num, .int .i64 a, .int .i64 b, .string s, .pointer (some ⟨po, 0, none⟩)] W (RetR W B po v (l ++ [⟨who, num, a, b, 0, s⟩])) := by
  obtain ⟨i0, hi, hz0, hz1, hz2⟩ := info_parts infoS
  obtain ⟨A0, c0, rfl, -, -⟩ := h.row.shape
  have hc := h.ob.cell 0
  have hlt := h.ob.lt
  have hB : B ≤ W.heap.size := by have := h.lp; omega
  have hb1 : Below W.heap.size W (W.alloc (.cells #[.int .i64 who, .int .i64 num, .int .i64 a, .int .i64 b, .int .i64 0, .string s, .string ByteArray.empty, .slice none 0 0] 32)) := (Below.refl _ _).alloc (Nat.le_refl _) _
  have HR1 := Lib.hid (h.row.alloc (.cells #[.int .i64 who, .int .i64 num, .int .i64 a, .int .i64 b, .int .i64 0, .string s, .string ByteArray.empty, .slice none 0 0] 32))
  have HS1 := Lib.hid (h.ob.alloc (.cells #[.int .i64 who, .int .i64 num, .int .i64 a, .int .i64 b, .int .i64 0, .string s, .string ByteArray.empty, .slice none 0 0] 32))
  have HA := Lib.hid (fun A9 c9 W9 hg9 hr9 ho9 => h.app (W1 := W9) (A' := A9) (c' := c9) (x := ⟨who, num, a, b, 0, s⟩) hb1 hg9 hr9 ho9)
  dsimp at hc
  clear h hb1
  go_enter Try.func19, Try.ntmps19
  go_wp2_with (at_builtin; refine wpList_append_row _ rfl (.tmp 11) (.tmp 19) 24 rfl B 32 i0 (.agg #[.int .i64 0, .int .i64 0, .int .i64 0, .int .i64 0, .int .i64 0, .string ByteArray.empty, .string ByteArray.empty, .slice none 0 0]) 8 96 Try.underlying24 hi hz0 hz1 hz2 rfl (by decide) (.slice A0 l.length c0) l.length (l.flatMap Stp.cells) rfl HR1.out (W.heap.size + 1) (some ⟨W.heap.size, 0, none⟩) 1 1 (Stp.cells ⟨who, num, a, b, 0, s⟩) rfl (blk_reads W 32 8 1 (Stp.cells ⟨who, num, a, b, 0, s⟩) rfl) (stp_one _) (by unfold maxLen; omega) (by omega) (by simp; omega) ?_; intro A9 c9 w9 hr9 hg9 ho9; have kb9 := HS1.out.fr (Fr.of_grown hg9) (row_blk HR1.out HS1.out (by decide)); have k90 := kb9.cell 0; have kl9 := kb9.lt; have kf9 := kb9.free 0; have HP9 := Lib.hid (HA.out A9 c9 w9 hg9 hr9 ho9); clear kb9 hr9 hg9 ho9)
  exact bodyPost_ret (v := .tuple #[]) (by simp [results, Try.results19, go_sem]) rfl ⟨rfl, HP9.out⟩
abbrev FSet (w : World) (b n : Nat) (S : Fds) (m : Nat) : Prop := TSet Try.prog w 3 4 b n S m
theorem up_fun (S : Fds) (x : Int) (v : Bool) : (fun z => if z = x then v else S z) = up S x v := rfl
theorem i64_small {x : Int} (h : 0 ≤ x ∧ x < 8) : (Lit.int .i64 x).wf = true := by
  rcases low_cases h with rfl | rfl | rfl | rfl | rfl | rfl | rfl | rfl <;> decide
set_option maxRecDepth 100000 in
/-- 'free'. -/
theorem free_any (W : World) (b n m : Nat) (S : Fds) (h : FSet W b n S m) (hq : 1 ≤ cnt S) (hn : n < 200000000000000) :
    Calls Try.prog 20 #[.map (some b)] W fun e w' => e = .returned (.int .i64 (lst S)) ∧ FSet w' b (n + 1) (up S (lst S) true) (m + 1) ∧ W.grownBy w' (some b) := by
  obtain ⟨h0, h1, h2, h3⟩ := lst_is hq
  obtain ⟨k, hk⟩ : ∃ k : Nat, lst S = k := ⟨(lst S).toNat, by omega⟩
  obtain ⟨w2, hrun, hset, hg⟩ := h.update Try.underlying3 Try.underlying4 Try.underlying59 (by unfold maxLen; omega) (i64_small ⟨h0, h1⟩)
  rw [h2] at hset
  have HS := Lib.hid hset
  have HG := Lib.hid hg
  rw [hk] at h0 h1 h2 h3 hrun HS ⊢
  have H3 := Lib.hid h3
  have HLK := Lib.hid (fun x hx => h.run_lookup Try.underlying3 Try.underlying4 Try.underlying59 (Try.zeroValue4 W) (x := x) hx)
  clear h3 h hset hg
  go_enter Try.func20, Try.ntmps20
  go_wp2_with fail
  go_loop [3] (fun i => ∃ j : Nat, i = .int .i64 j ∧ j ≤ k) (fun i => k - (intOf i).toNat)
  case atStart => exact ⟨0, rfl, by omega⟩
  case round =>
    obtain ⟨j, rfl, hj⟩ := hrel
    have hlk := HLK.out (j : Int) (i64_small (by omega))
    by_cases hjk : j < k
    · rw [H3.out j (by omega) (by omega)] at hlk
      clear h2
      go_wp2
      go_round
      case rel => exact ⟨j + 1, by go_num, by omega⟩
      case measure => simp [intOf]; omega
    · obtain rfl : j = k := by omega
      rw [h2] at hlk
      clear h2
      go_wp2
      go_ret
      exact ⟨rfl, HS.out, HG.out⟩
/-- The closures' values. -/
def doF (po : Nat) : Value := .func (.func 19) #[] #[.pointer (some ⟨po, 0, none⟩)]
def shF (ph pd pm : Nat) : Value := .func (.func 21) #[] #[.pointer (some ⟨ph, 0, none⟩), .pointer (some ⟨pd, 0, none⟩), .pointer (some ⟨pm, 0, none⟩)]
/-- A child's descriptors and the steps, as the reference holds them. -/
structure Hw (w : World) (B po ph pd pm bh n : Nat) (me : Int) (v : Value) (q : Pst) : Prop where
  rs : Rs w B po v q.2
  hm : ∃ m, FSet w bh n q.1 m
  hc : Blk w ph #[.map (some bh)] 59
  dc : Blk w pd #[doF po] 60
  mc : Blk w pm #[.int .i64 me] 3
  lb : B ≤ bh
def HF (po bh : Nat) (v : Value) (k : Nat) : Prop := RF po v k ∨ k = bh
def HGo (w : World) (B po ph pd pm bh n : Nat) (me : Int) (v : Value) (q : Pst) (w' : World) : Prop :=
  ∃ v', Hw w' B po ph pd pm bh n me v' q ∧ Fr (HF po bh v) w w' ∧ ∀ k, v'.ownBlock = some k → v.ownBlock = some k ∨ w.heap.size ≤ k
theorem set_blk {w : World} {b n m : Nat} {S : Fds} (h : FSet w b n S m) {g : Nat} {cs : Array Value} {t : TypeId} (hb : Blk w g cs t) : g ≠ b := by
  rintro rfl
  obtain ⟨es, c, he⟩ := h.isMapBlock
  unfold Blk at hb
  rw [he] at hb
  cases hb
theorem set_row {w : World} {b n m : Nat} {S : Fds} (h : FSet w b n S m) {B s k : Nat} {e : TypeId} {v : Value} {xs : List Value} (hr : Row w B e s v k xs) : v.ownBlock ≠ some b := by
  obtain ⟨es, c, he⟩ := h.isMapBlock
  rcases hr.2 with ⟨rfl, _⟩ | ⟨g, o, cap, cur, rfl, _, hg, _⟩
  · intro e; cases e
  · intro e
    injection e with e
    subst e
    rw [he] at hg
    cases hg
namespace Hw
variable {w w' w1 : World} {B po ph pd pm bh n : Nat} {me : Int} {v : Value} {q : Pst} {l : List Stp} {S : Fds} {m : Nat}
theorem lowF (h : Hw w B po ph pd pm bh n me v q) : ∀ k, HF po bh v k → B ≤ k := fun k hk => by
  rcases hk with hk | rfl
  · exact h.rs.lowF k hk
  · exact h.lb
theorem refl (h : Hw w B po ph pd pm bh n me v q) : HGo w B po ph pd pm bh n me v q w := ⟨v, h, Fr.refl _ _, fun _ hk => .inl hk⟩
theorem more (h : Hw w B po ph pd pm bh n me v q) {n' : Nat} (hn : n ≤ n') : Hw w B po ph pd pm bh n' me v q := by
  obtain ⟨m, hm⟩ := h.hm
  exact ⟨h.rs, ⟨m, hm.mono hn⟩, h.hc, h.dc, h.mc, h.lb⟩
/-- Steps have come. -/
theorem out (h : Hw w B po ph pd pm bh n me v q) (hG : RGo w B po v l w') : HGo w B po ph pd pm bh n me v (q.1, l) w' := by
  obtain ⟨v1, r1, f1, o1⟩ := hG
  obtain ⟨m, hm⟩ := h.hm
  have hn1 : ¬ RF po v bh := fun e => by
    rcases e with e | e
    · exact set_blk hm h.rs.ob e.symm
    · exact set_row hm h.rs.row e
  have hb : ∀ {k : Nat} {cs : Array Value} {t : TypeId}, Blk w k cs t → t ≠ 24 → t ≠ 32 → ¬ RF po v k := fun hk h1 h2 e => by
    rcases e with e | e
    · exact blk_ne hk h.rs.ob h1 e
    · exact row_blk h.rs.row hk (Ne.symm h2) e
  exact ⟨v1, ⟨r1, ⟨m, hm.fr f1 hn1⟩, h.hc.fr f1 (hb h.hc (by decide) (by decide)), h.dc.fr f1 (hb h.dc (by decide) (by decide)), h.mc.fr f1 (hb h.mc (by decide) (by decide)), h.lb⟩, f1.mono fun _ _ e => .inl e, o1⟩
/-- The set has turned. -/
theorem turned (h : Hw w B po ph pd pm bh n me v q) {n' : Nat} (hs : FSet w' bh n' S m) (hg : w.grownBy w' (some bh)) : HGo w B po ph pd pm bh n' me v (S, q.2) w' := by
  obtain ⟨m0, hm⟩ := h.hm
  have hf : Fr (fun k => k = bh) w w' := (Fr.of_grown hg).mono fun k _ e => by injection e with e; exact e.symm
  have hb : ∀ {k : Nat} {cs : Array Value} {t : TypeId}, Blk w k cs t → Blk w' k cs t := fun hk => hk.fr hf (set_blk hm hk)
  exact ⟨v, ⟨h.rs.fr hf (set_blk hm h.rs.ob) (fun k hk e => set_row hm h.rs.row (e ▸ hk)), ⟨m, hs⟩, hb h.hc, hb h.dc, hb h.mc, h.lb⟩, hf.mono fun _ _ e => .inr e, fun _ hk => .inl hk⟩
theorem grow (h : Hw w B po ph pd pm bh n me v q) (hb : Below w.heap.size w w') : Hw w' B po ph pd pm bh n me v q := by
  obtain ⟨m, hm⟩ := h.hm
  have hf := Fr.of_grow hb
  exact ⟨h.rs.grow hb, ⟨m, hm.grow hb⟩, h.hc.fr hf id, h.dc.fr hf id, h.mc.fr hf id, h.lb⟩
theorem keep (h : Hw w B po ph pd pm bh n me v q) {k : Nat} {cs : Array Value} {t : TypeId} (hk : Blk w k cs t) (h1 : t ≠ 24) (h2 : t ≠ 32) (hf : Fr (HF po bh v) w w') : Blk w' k cs t := by
  obtain ⟨m, hm⟩ := h.hm
  refine hk.fr hf (fun e => ?_)
  rcases e with (e | e) | e
  · exact blk_ne hk h.rs.ob h1 e
  · exact row_blk h.rs.row hk (Ne.symm h2) e
  · exact set_blk hm hk e
end Hw
theorem HGo.comp {w w1 w2 : World} {B po ph pd pm bh n2 : Nat} {me : Int} {v v1 : Value} {q2 : Pst} (f1 : Fr (HF po bh v) w w1) (o1 : ∀ k, v1.ownBlock = some k → v.ownBlock = some k ∨ w.heap.size ≤ k) (h2 : HGo w1 B po ph pd pm bh n2 me v1 q2 w2) : HGo w B po ph pd pm bh n2 me v q2 w2 := by
  obtain ⟨v2, m2, f2, o2⟩ := h2
  refine ⟨v2, m2, f1.trans f2 (fun k hk hF => ?_), fun k hk => ?_⟩
  · rcases hF with (e | e) | e
    · exact .inl (.inl e)
    · rcases o1 k e with e | e
      · exact .inl (.inr e)
      · omega
    · exact .inr e
  · rcases o2 k hk with e | e
    · exact o1 k e
    · have := f1.size; exact .inr (by omega)
theorem HGo.trans {w w1 w2 : World} {B po ph pd pm bh n n2 : Nat} {me : Int} {v : Value} {q q2 : Pst} (h1 : HGo w B po ph pd pm bh n me v q w1) (h2 : ∀ v1, Hw w1 B po ph pd pm bh n me v1 q → HGo w1 B po ph pd pm bh n2 me v1 q2 w2) : HGo w B po ph pd pm bh n2 me v q2 w2 := by
  obtain ⟨v1, m1, f1, o1⟩ := h1
  exact HGo.comp f1 o1 (h2 v1 m1)
def RetH (w : World) (B po ph pd pm bh n : Nat) (me : Int) (v : Value) (q : Pst) (e : Ending) (w' : World) : Prop := e = .returned (.tuple #[]) ∧ HGo w B po ph pd pm bh n me v q w'
theorem reth {w w' : World} {B po ph pd pm bh n : Nat} {me : Int} {v : Value} {q q' : Pst} (e : q' = q) (h : HGo w B po ph pd pm bh n me v q w') : RetH w B po ph pd pm bh n me v q' (.returned (.tuple #[])) w' := ⟨rfl, e ▸ h⟩
set_option maxRecDepth 100000 in
theorem hshut_any (W : World) (B po ph pd pm bh n : Nat) (me x : Int) (v : Value) (q : Pst) (h : Hw W B po ph pd pm bh n me v q) (hl : q.2.length ≤ 9000) (hx : x < 8) :
    Calls Try.prog 21 #[.int .i64 x, .pointer (some ⟨ph, 0, none⟩), .pointer (some ⟨pd, 0, none⟩), .pointer (some ⟨pm, 0, none⟩)] W (RetH W B po ph pd pm bh n me v (shutF me x q)) := by
  obtain ⟨m, hm⟩ := h.hm
  have H := Lib.hid h
  have c0 := h.hc.cell 0
  have d0 := h.dc.cell 0
  have m0 := h.mc.cell 0
  have l0 := h.hc.lt
  have l1 := h.dc.lt
  have l2 := h.mc.lt
  dsimp [doF] at c0 d0 m0
  by_cases h0 : 0 ≤ x
  · have hd : decide (0 ≤ x) = true := by simpa using h0
    have hwf := i64_small ⟨h0, hx⟩
    have hlk := hm.run_lookup Try.underlying3 Try.underlying4 Try.underlying59 (Try.zeroValue4 W) (x := x) hwf
    obtain ⟨y, hy⟩ : ∃ y, q.1 x = y := ⟨_, rfl⟩
    rw [hy] at hlk
    cases y with
    | false =>
      have HE : Hid (shutF me x q = q) := Lib.hid (by unfold shutF; rw [if_neg (by rw [hy]; simp)])
      clear h hm hy
      go_enter Try.func21, Try.ntmps21
      go_wp2
      exact bodyPost_ret (v := .tuple #[]) (by simp [results, Try.results21, go_sem]) rfl (reth HE.out H.out.refl)
    | true =>
      have HE : Hid (shutF me x q = (up q.1 x false, q.2 ++ [stp me 6 x 0])) := Lib.hid (by unfold shutF; rw [if_pos ⟨h0, hy⟩])
      have HD := Lib.hid (do_any W B po v q.2 me 6 x 0 ByteArray.empty h.rs (by omega))
      clear h hm hy
      go_enter Try.func21, Try.ntmps21
      go_wp2_with fail
      refine HD.out.mono ?_
      rintro e w1 ⟨rfl, hG⟩
      have HG := Lib.hid (H.out.out hG)
      obtain ⟨v1, h1, f1, o1⟩ := HG.out
      obtain ⟨m1, hm1⟩ := h1.hm
      obtain ⟨w2, hrun, hset, hg⟩ := hm1.delete Try.underlying3 Try.underlying59 hwf
      have HP := Lib.hid (HG.out.trans (fun v1 h1 => h1.turned hset hg))
      clear c0 d0 m0 l0 l1 l2 hlk hG HD
      have c0 := h1.hc.cell 0
      have l0 := h1.hc.lt
      dsimp at c0
      clear h1 f1 o1 hm1 hset hg
      go_wp2
      exact bodyPost_ret (v := .tuple #[]) (by simp [results, Try.results21, go_sem]) rfl (reth HE.out HP.out)
  · have HE : Hid (shutF me x q = q) := Lib.hid (by unfold shutF; rw [if_neg (by omega)])
    have hd : decide (0 ≤ x) = false := by simpa using h0
    clear h hm
    go_enter Try.func21, Try.ntmps21
    go_wp2
    exact bodyPost_ret (v := .tuple #[]) (by simp [results, Try.results21, go_sem]) rfl (reth HE.out H.out.refl)
set_option maxRecDepth 100000 in
theorem hmove_any (W : World) (B po ph pd pm bh n ps : Nat) (me fr tt : Int) (v : Value) (q : Pst) (h : Hw W B po ph pd pm bh n me v q) (hs : Blk W ps #[shF ph pd pm] 53) (hl : q.2.length ≤ 8900) (hfr : fr < 8) (ht : 0 ≤ tt ∧ tt < 8) (hn : n < 200000000000000) :
    Calls Try.prog 22 #[.int .i64 fr, .int .i64 tt, .pointer (some ⟨pd, 0, none⟩), .pointer (some ⟨pm, 0, none⟩), .pointer (some ⟨ph, 0, none⟩), .pointer (some ⟨ps, 0, none⟩)] W (RetH W B po ph pd pm bh (n + 1) me v (turnF me fr tt q)) := by
  have H := Lib.hid h
  have c0 := h.hc.cell 0
  have d0 := h.dc.cell 0
  have m0 := h.mc.cell 0
  have s0 := hs.cell 0
  have l0 := h.hc.lt
  have l1 := h.dc.lt
  have l2 := h.mc.lt
  have l3 := hs.lt
  dsimp [doF, shF] at c0 d0 m0 s0
  by_cases h0 : fr < 0
  · have HE : Hid (turnF me fr tt q = q) := Lib.hid (by unfold turnF; rw [if_pos (.inl h0)])
    have hd : decide (0 ≤ fr) = false := by simp; omega
    clear h
    go_enter Try.func22, Try.ntmps22
    go_wp2
    exact bodyPost_ret (v := .tuple #[]) (by simp [results, Try.results22, go_sem]) rfl (reth HE.out (H.out.more (Nat.le_succ n)).refl)
  · have hd : decide (0 ≤ fr) = true := by simp; omega
    by_cases h1 : fr = tt
    · have HE : Hid (turnF me fr tt q = q) := Lib.hid (by unfold turnF; rw [if_pos (.inr h1)])
      have hd1 : (fr != tt) = false := by simpa using h1
      clear h h1
      go_enter Try.func22, Try.ntmps22
      go_wp2
      exact bodyPost_ret (v := .tuple #[]) (by simp [results, Try.results22, go_sem]) rfl (reth HE.out (H.out.more (Nat.le_succ n)).refl)
    · have HE : Hid (turnF me fr tt q = shutF me fr (up q.1 tt true, q.2 ++ [stp me 11 fr tt])) := Lib.hid (by unfold turnF; rw [if_neg (by omega)])
      have hd1 : (fr != tt) = true := by simpa using h1
      have HD := Lib.hid (do_any W B po v q.2 me 11 fr tt ByteArray.empty h.rs (by omega))
      have HS := Lib.hid hs
      clear h h1 hs
      go_enter Try.func22, Try.ntmps22
      go_wp2_with fail
      refine HD.out.mono ?_
      rintro e w1 ⟨rfl, hG⟩
      have HG := Lib.hid (H.out.out hG)
      obtain ⟨v1, h1, f1, o1⟩ := HG.out
      have hs1 := H.out.keep HS.out (by decide) (by decide) f1
      obtain ⟨m1, hm1⟩ := h1.hm
      obtain ⟨w2, hrun, hset, hg⟩ := hm1.update Try.underlying3 Try.underlying4 Try.underlying59 (by unfold maxLen; omega) (i64_small ht)
      have HP := Lib.hid (HG.out.trans (fun v1 h1 => h1.turned hset hg))
      have hs2 : Blk w2 ps #[shF ph pd pm] 53 := hs1.fr ((Fr.of_grown hg).mono (S' := fun k => k = bh) fun k _ e => by injection e with e; exact e.symm) (set_blk hm1 hs1)
      clear c0 d0 m0 l0 l1 l2 hG HD s0 l3
      have c0 := h1.hc.cell 0
      have l0 := h1.hc.lt
      have s0 := hs2.cell 0
      have l3 := hs2.lt
      dsimp [shF] at c0 s0
      clear h1 f1 o1 hm1 hset hg hs1 hs2
      go_wp2_with fail
      obtain ⟨v2, h2, f2, o2⟩ := HP.out
      refine (hshut_any w2 B po ph pd pm bh (n + 1) me fr v2 _ h2 (by simp; omega) hfr).mono ?_
      rintro e w3 ⟨rfl, hG3⟩
      have HF : Hid (HGo W B po ph pd pm bh (n + 1) me v (shutF me fr (up q.1 tt true, q.2 ++ [stp me 11 fr tt])) w3) := Lib.hid (HGo.comp f2 o2 hG3)
      clear hG3 h2 f2 o2 HP c0 l0 s0 l3
      go_wp2
      exact bodyPost_ret (v := .tuple #[]) (by simp [results, Try.results22, go_sem]) rfl (reth HE.out HF.out)
end Go.Proofs.Ytjeclmkdojnflaa
