/- Contract of refs.Wrong. -/
import Derived.Test.YtjdbclcafjlohaaRwB
namespace Go.Proofs.Ytjdbclcafjlohaa
open Go.RowKit
set_option maxHeartbeats 400000
set_option linter.unusedVariables false
set_option linter.unusedSimpArgs false
/-- A thing's state after the first k records. -/
def sn (rs : List Rc) (k : Nat) (o : Int) : Int × Int := (lf (rs.take k) o).getD (0, 0)
def gone (s : Int × Int) : Bool := s.1 == 2
def here (s : Int × Int) : Bool := s.1 != 0
theorem sn_other {rs : List Rc} {k : Nat} (hk : k < rs.length) {o : Int} (ho : (rs.getD k .zero).o ≠ o) : sn rs (k + 1) o = sn rs k o := by
  unfold sn
  rw [lf_take rs k hk]
  unfold lf1
  rw [show (lf (rs.take k) o).bind (fun s => if (rs.getD k .zero).o = o then lifeStep s (rs.getD k .zero).k else some s) = lf (rs.take k) o by
    simp only [if_neg ho]; cases lf (rs.take k) o <;> rfl]
theorem sn_step {rs : List Rc} {k : Nat} (hk : k < rs.length) (h : ∀ j, j < k → okAt rs j) : lf (rs.take (k + 1)) (rs.getD k .zero).o = lifeStep (sn rs k (rs.getD k .zero).o) (rs.getD k .zero).k := by
  obtain ⟨p, q, hpq⟩ := all_some (Nat.le_of_lt hk) h (rs.getD k .zero).o
  rw [lf_take rs k hk, lf1_some hpq, if_pos rfl]
  unfold sn
  rw [hpq]
  rfl
theorem sn_inv {rs : List Rc} {k : Nat} (hk : k < rs.length) (h : ∀ j, j < k → okAt rs j) (o : Int) : ((sn rs k o).1 = 0 ∨ (sn rs k o).1 = 1 ∨ (sn rs k o).1 = 2) ∧ -(k : Int) ≤ (sn rs k o).2 ∧ (sn rs k o).2 ≤ k := by
  obtain ⟨p, q, hpq⟩ := all_some (Nat.le_of_lt hk) h o
  have := lf_inv rs o k (Nat.le_of_lt hk) p q hpq
  unfold sn
  rw [hpq]
  exact this
/-- What a record that may be leaves of the states. -/
structure Stepped (rs : List Rc) (k : Nat) (o : Int) (s : Int × Int) : Prop where
  ok : ∀ j, j < k + 1 → okAt rs j
  at_ : sn rs (k + 1) o = s
theorem stepped {rs : List Rc} {k : Nat} (hk : k < rs.length) (h : ∀ j, j < k → okAt rs j) {s : Int × Int} (hs : lifeStep (sn rs k (rs.getD k .zero).o) (rs.getD k .zero).k = some s) : Stepped rs k (rs.getD k .zero).o s := by
  have h1 := sn_step hk h
  rw [hs] at h1
  refine ⟨ok_next h ?_, ?_⟩
  · unfold okAt; rw [h1]; rfl
  · unfold sn; rw [h1]; rfl
theorem not_ok {rs : List Rc} {k : Nat} (ht : traceErr rs = 0) (hk : k < rs.length) (h : ∀ j, j < k → okAt rs j) (hs : lifeStep (sn rs k (rs.getD k .zero).o) (rs.getD k .zero).k = none) : WrongIs rs k 0 := by
  refine .at_ ht hk h ?_
  unfold okAt
  rw [sn_step hk h, hs]
  simp
def WrRel (w w1 : World) (rs : List Rc) (k : Nat) (wr : World) : Prop :=
  wr.heap[w1.heap.size]? = some (.cells (rowOf fun o => .int .i64 (sn rs k o).2) 63 (0, 0)) ∧ wr.heap[w1.heap.size + 1]? = some (.cells (rowOf fun o => .bool (gone (sn rs k o))) 62 (0, 0)) ∧ wr.heap[w1.heap.size + 2]? = some (.cells (rowOf fun o => .bool (here (sn rs k o))) 62 (0, 0)) ∧ Below w.heap.size w wr
theorem WrRel.drew {w w1 wr : World} {rs : List Rc} {k : Nat} (h : WrRel w w1 rs k wr) : WrRel w w1 rs k wr.drew := ⟨h.1, h.2.1, h.2.2.1, h.2.2.2.drew⟩
theorem row_new {W : World} {t : TypeId} (f : Nat → Value) : (W.alloc (.cells (rowOf f) t)).heap[W.heap.size]? = some (.cells (rowOf f) t (0, 0)) := by
  rw [heap_alloc_new]
theorem WrRel.start {w w1 : World} (rs : List Rc) (hb : Below w.heap.size w w1) : WrRel w w1 rs 0 (((w1.alloc (.cells (rowOf fun _ => .int .i64 0) 63)).alloc (.cells (rowOf fun _ => .bool false) 62)).alloc (.cells (rowOf fun _ => .bool false) 62)) := by
  refine ⟨row_alloc (row_alloc (row_same (row_new _) fun j => rfl) _) _, ?_, ?_, ((hb.alloc hb.size _).alloc (by simp; exact Nat.le_succ_of_le hb.size) _).alloc (by simp; exact Nat.le_succ_of_le (Nat.le_succ_of_le hb.size)) _⟩
  · have h1 := row_new (W := w1.alloc (.cells (rowOf fun _ => .int .i64 0) 63)) (t := 62) fun _ => .bool false
    rw [World.size_alloc] at h1
    exact row_alloc (row_same h1 fun j => rfl) _
  · have h1 := row_new (W := (w1.alloc (.cells (rowOf fun _ => .int .i64 0) 63)).alloc (.cells (rowOf fun _ => .bool false) 62)) (t := 62) fun _ => .bool false
    rw [World.size_alloc, World.size_alloc] at h1
    exact row_same h1 fun j => rfl
set_option maxHeartbeats 4000000 in
set_option maxRecDepth 100000 in
theorem wrong_any (A : Option Addr) (n c : Nat) (rs : List Rc) (w : World) (B : Nat) (h : RR w B A n rs) (hB : B ≤ w.heap.size) (hn : n ≤ 9223372036854775807) :
    Calls Try.prog 22 #[.slice A n c] w (WrongPost rs w) := by
  have HL := Lib.hid h.2
  by_cases ht : traceErr rs = 0
  · obtain ⟨hsm, hgd⟩ := traceErr_good ht
    have hsm' : n ≤ 400 := by rw [HL.out] at hsm; exact hsm
    have HT := Lib.hid ht
    have HG := Lib.hid hgd
    clear hsm hgd
    go_enter Try.func22, Try.ntmps22
    go_wp2_with (go_at_call 38; refine (checked_any A n c rs _ B h hB hn).mono ?_; rintro e w1 ⟨rfl, hb1⟩; rw [ht])
    clear ht
    have hrel0 := WrRel.start rs hb1
    go_loopw [18] (fun i wr => ∃ k : Nat, k ≤ n ∧ i = .int .i64 k ∧ Hid (∀ j, j < k → okAt rs j) ∧ WrRel w w1 rs k wr) (fun i _ => n - (intOf i).toNat)
    case atStart => exact ⟨0, by omega, rfl, Lib.hid (fun j hj => by omega), hrel0⟩
    case round =>
      obtain ⟨k, hk, rfl, hok, ha5, ha6, ha7, hbw⟩ := hrel
      clear hrel0
      by_cases hlt : k < n
      · obtain ⟨b, of, rfl, hb, c0, c1, c2, c3⟩ := (h.below' hbw hB).at_ hlt
        have hlen : k < rs.length := by rw [HL.out]; exact hlt
        have hGo := Lib.hid (fun s => stepped hlen hok.out (s := s))
        have hNo := Lib.hid (not_ok HT.out hlen hok.out)
        have hOt := Lib.hid (fun o => sn_other hlen (o := o))
        have hbd := fun o => sn_inv hlen hok.out o
        have he := HG.out k hlen
        generalize rs.getD k .zero = r at *
        have hgd := Rc.good he
        obtain ⟨i, hi⟩ : ∃ i : Nat, r.o = i := ⟨r.o.toNat, by omega⟩
        have hi64 : i < 64 := by omega
        have hi64' : (i : Int) < 64 := by omega
        obtain ⟨d5, f5, l5⟩ := row_cell ha5 hi64
        obtain ⟨d6, f6, l6⟩ := row_cell ha6 hi64
        obtain ⟨d7, f7, l7⟩ := row_cell ha7 hi64
        have hbi := hbd i
        clear hbd he
        rw [hi] at hGo hNo
        have hOt' := Lib.hid (fun (j : Nat) (hj : j ≠ i) => hOt.out j (by omega))
        clear hOt
        have hb1s := hb1.size
        have hHe := Lib.hid (show here (sn rs k i) = ((sn rs k i).1 != 0) from rfl)
        have hGn := Lib.hid (show gone (sn rs k i) = ((sn rs k i).1 == 2) from rfl)
        generalize here (sn rs k i) = th at d7 hHe
        generalize gone (sn rs k i) = lt at d6 hGn
        generalize hS : sn rs k i = s at *
        obtain ⟨p, q⟩ := s
        dsimp only at d5 hHe hGn hbi
        have HI := Lib.hid hi
        by_cases h5 : r.k = 5
        · cases th with
          | true =>
            go_wp2
            go_region
            go_wp2
            go_ret2
            have hp := hHe.out; have hp2 := hGn.out
            try simp at hp hp2
            exact ⟨_, _, rfl, hNo.out (by simp [lifeStep, h5]; try omega), ((((hbw.setCell (by show _ ≤ w1.heap.size + 2; omega) _).setCell (by show _ ≤ w1.heap.size + 0; omega) _).setCell (by show _ ≤ w1.heap.size + 1; omega) _).alloc (by simpa using hbw.size) _).drew⟩
          | false =>
            go_wp2
            go_region
            go_wp2
            go_roundw
            case rel =>
              have hp := hHe.out; have hp2 := hGn.out
              try simp at hp hp2
              have st := hGo.out (1, 1) (by simp [lifeStep, h5]; try omega)
              exact ⟨k + 1, by omega, by go_num, Lib.hid st.ok, WrRel.drew ⟨row_alloc (row_other (row_next (row_other ha5 (by omega)) hi64 (fun j hj => by rw [hOt'.out j hj]) (by rw [st.at_] <;> rfl)) (by omega)) _, row_alloc (row_next (row_other (row_other ha6 (by omega)) (by omega)) hi64 (fun j hj => by rw [hOt'.out j hj]) (by rw [st.at_] <;> rfl)) _, row_alloc (row_other (row_other (row_next ha7 hi64 (fun j hj => by rw [hOt'.out j hj]) (by rw [st.at_] <;> rfl)) (by omega)) (by omega)) _, ((((hbw.setCell (by show _ ≤ w1.heap.size + 2; omega) _).setCell (by show _ ≤ w1.heap.size + 0; omega) _).setCell (by show _ ≤ w1.heap.size + 1; omega) _).alloc (by simpa using hbw.size) _)⟩⟩
            case measure => simp [intOf]; omega
        by_cases h6 : r.k = 6
        · by_cases hq : 0 < q
          · skip
            go_wp2
            go_roundw
            case rel =>
              have hp := hHe.out; have hp2 := hGn.out
              try simp at hp hp2
              have st := hGo.out (p, q + 1) (by simp [lifeStep, h6]; try omega)
              have hSame1 : ∀ j : Nat, (.bool (gone (sn rs (k + 1) j)) : Value) = .bool (gone (sn rs k j)) := fun j => by
                by_cases hj : j = i
                · subst hj; rw [st.at_, hS] <;> simp [gone, here] <;> omega
                · rw [hOt'.out j hj]
              have hSame2 : ∀ j : Nat, (.bool (here (sn rs (k + 1) j)) : Value) = .bool (here (sn rs k j)) := fun j => by
                by_cases hj : j = i
                · subst hj; rw [st.at_, hS] <;> simp [gone, here] <;> omega
                · rw [hOt'.out j hj]
              exact ⟨k + 1, by omega, by go_num, Lib.hid st.ok, ⟨row_alloc (row_next ha5 hi64 (fun j hj => by rw [hOt'.out j hj]) (by rw [st.at_] <;> rfl)) _, row_alloc (row_other (row_same ha6 fun j => hSame1 j) (by omega)) _, row_alloc (row_other (row_same ha7 fun j => hSame2 j) (by omega)) _, ((hbw.setCell (by show _ ≤ w1.heap.size + 0; omega) _).alloc (by simpa using hbw.size) _)⟩⟩
            case measure => simp [intOf]; omega
          · skip
            go_wp2
            go_ret2
            have hp := hHe.out; have hp2 := hGn.out
            try simp at hp hp2
            exact ⟨_, _, rfl, hNo.out (by simp [lifeStep, h6]; try omega), ((hbw.setCell (by show _ ≤ w1.heap.size + 0; omega) _).alloc (by simpa using hbw.size) _)⟩
        by_cases h7 : r.k = 7
        · by_cases hq : 0 < q
          · skip
            go_wp2
            go_roundw
            case rel =>
              have hp := hHe.out; have hp2 := hGn.out
              try simp at hp hp2
              have st := hGo.out (p, q - 1) (by simp [lifeStep, h7]; try omega)
              have hSame1 : ∀ j : Nat, (.bool (gone (sn rs (k + 1) j)) : Value) = .bool (gone (sn rs k j)) := fun j => by
                by_cases hj : j = i
                · subst hj; rw [st.at_, hS] <;> simp [gone, here] <;> omega
                · rw [hOt'.out j hj]
              have hSame2 : ∀ j : Nat, (.bool (here (sn rs (k + 1) j)) : Value) = .bool (here (sn rs k j)) := fun j => by
                by_cases hj : j = i
                · subst hj; rw [st.at_, hS] <;> simp [gone, here] <;> omega
                · rw [hOt'.out j hj]
              exact ⟨k + 1, by omega, by go_num, Lib.hid st.ok, ⟨row_alloc (row_next ha5 hi64 (fun j hj => by rw [hOt'.out j hj]) (by rw [st.at_] <;> rfl)) _, row_alloc (row_other (row_same ha6 fun j => hSame1 j) (by omega)) _, row_alloc (row_other (row_same ha7 fun j => hSame2 j) (by omega)) _, ((hbw.setCell (by show _ ≤ w1.heap.size + 0; omega) _).alloc (by simpa using hbw.size) _)⟩⟩
            case measure => simp [intOf]; omega
          · skip
            go_wp2
            go_ret2
            have hp := hHe.out; have hp2 := hGn.out
            try simp at hp hp2
            exact ⟨_, _, rfl, hNo.out (by simp [lifeStep, h7]; try omega), ((hbw.setCell (by show _ ≤ w1.heap.size + 0; omega) _).alloc (by simpa using hbw.size) _)⟩
        by_cases h8 : r.k = 8
        · cases th with
          | false =>
            go_wp2
            go_ret2
            have hp := hHe.out; have hp2 := hGn.out
            try simp at hp hp2
            exact ⟨_, _, rfl, hNo.out (by simp [lifeStep, h8]; try omega), ((hbw.setCell (by show _ ≤ w1.heap.size + 1; omega) _).alloc (by simpa using hbw.size) _)⟩
          | true =>
            by_cases hq : q = 0
            · cases lt with
              | true =>
                go_wp2
                go_ret2
                have hp := hHe.out; have hp2 := hGn.out
                try simp at hp hp2
                exact ⟨_, _, rfl, hNo.out (by simp [lifeStep, h8]; try omega), ((hbw.setCell (by show _ ≤ w1.heap.size + 1; omega) _).alloc (by simpa using hbw.size) _)⟩
              | false =>
                go_wp2
                go_roundw
                case rel =>
                  have hp := hHe.out; have hp2 := hGn.out
                  try simp at hp hp2
                  have st := hGo.out (2, q) (by simp [lifeStep, h8]; try omega)
                  have hSame0 : ∀ j : Nat, (.int .i64 (sn rs (k + 1) j).2 : Value) = .int .i64 (sn rs k j).2 := fun j => by
                    by_cases hj : j = i
                    · subst hj; rw [st.at_, hS] <;> simp [gone, here] <;> omega
                    · rw [hOt'.out j hj]
                  have hSame2 : ∀ j : Nat, (.bool (here (sn rs (k + 1) j)) : Value) = .bool (here (sn rs k j)) := fun j => by
                    by_cases hj : j = i
                    · subst hj; rw [st.at_, hS] <;> simp [gone, here] <;> omega
                    · rw [hOt'.out j hj]
                  exact ⟨k + 1, by omega, by go_num, Lib.hid st.ok, ⟨row_alloc (row_other (row_same ha5 fun j => hSame0 j) (by omega)) _, row_alloc (row_next ha6 hi64 (fun j hj => by rw [hOt'.out j hj]) (by rw [st.at_] <;> rfl)) _, row_alloc (row_other (row_same ha7 fun j => hSame2 j) (by omega)) _, ((hbw.setCell (by show _ ≤ w1.heap.size + 1; omega) _).alloc (by simpa using hbw.size) _)⟩⟩
                case measure => simp [intOf]; omega
            · skip
              go_wp2
              go_ret2
              have hp := hHe.out; have hp2 := hGn.out
              try simp at hp hp2
              exact ⟨_, _, rfl, hNo.out (by simp [lifeStep, h8]; try omega), ((hbw.setCell (by show _ ≤ w1.heap.size + 1; omega) _).alloc (by simpa using hbw.size) _)⟩
        by_cases h9 : r.k = 9
        · cases lt with
          | false =>
            go_wp2
            go_region
            go_wp2
            go_ret2
            have hp := hHe.out; have hp2 := hGn.out
            try simp at hp hp2
            exact ⟨_, _, rfl, hNo.out (by simp [lifeStep, h9]; try omega), (((hbw.setCell (by show _ ≤ w1.heap.size + 1; omega) _).setCell (by show _ ≤ w1.heap.size + 2; omega) _).alloc (by simpa using hbw.size) _).drew⟩
          | true =>
            go_wp2
            go_region
            go_wp2
            go_roundw
            case rel =>
              have hp := hHe.out; have hp2 := hGn.out
              try simp at hp hp2
              have st := hGo.out (0, q) (by simp [lifeStep, h9]; try omega)
              have hSame0 : ∀ j : Nat, (.int .i64 (sn rs (k + 1) j).2 : Value) = .int .i64 (sn rs k j).2 := fun j => by
                by_cases hj : j = i
                · subst hj; rw [st.at_, hS] <;> simp [gone, here] <;> omega
                · rw [hOt'.out j hj]
              exact ⟨k + 1, by omega, by go_num, Lib.hid st.ok, WrRel.drew ⟨row_alloc (row_other (row_other (row_same ha5 fun j => hSame0 j) (by omega)) (by omega)) _, row_alloc (row_other (row_next ha6 hi64 (fun j hj => by rw [hOt'.out j hj]) (by rw [st.at_] <;> rfl)) (by omega)) _, row_alloc (row_next (row_other ha7 (by omega)) hi64 (fun j hj => by rw [hOt'.out j hj]) (by rw [st.at_] <;> rfl)) _, (((hbw.setCell (by show _ ≤ w1.heap.size + 1; omega) _).setCell (by show _ ≤ w1.heap.size + 2; omega) _).alloc (by simpa using hbw.size) _)⟩⟩
            case measure => simp [intOf]; omega
        go_wp2
        go_roundw
        case rel =>
          have hp := hHe.out; have hp2 := hGn.out
          try simp at hp hp2
          have st := hGo.out (p, q) (by simp [lifeStep, h5, h6, h7, h8, h9]; try omega)
          have hSame0 : ∀ j : Nat, (.int .i64 (sn rs (k + 1) j).2 : Value) = .int .i64 (sn rs k j).2 := fun j => by
            by_cases hj : j = i
            · subst hj; rw [st.at_, hS] <;> simp [gone, here] <;> omega
            · rw [hOt'.out j hj]
          have hSame1 : ∀ j : Nat, (.bool (gone (sn rs (k + 1) j)) : Value) = .bool (gone (sn rs k j)) := fun j => by
            by_cases hj : j = i
            · subst hj; rw [st.at_, hS] <;> simp [gone, here] <;> omega
            · rw [hOt'.out j hj]
          have hSame2 : ∀ j : Nat, (.bool (here (sn rs (k + 1) j)) : Value) = .bool (here (sn rs k j)) := fun j => by
            by_cases hj : j = i
            · subst hj; rw [st.at_, hS] <;> simp [gone, here] <;> omega
            · rw [hOt'.out j hj]
          exact ⟨k + 1, by omega, by go_num, Lib.hid st.ok, ⟨row_alloc (row_same ha5 fun j => hSame0 j) _, row_alloc (row_same ha6 fun j => hSame1 j) _, row_alloc (row_same ha7 fun j => hSame2 j) _, (hbw.alloc (by simpa using hbw.size) _)⟩⟩
        case measure => simp [intOf]; omega
      · obtain rfl : k = n := by omega
        go_wp2
        go_ret2
        exact ⟨_, _, rfl, .inr (.inr ⟨HT.out, fun j hj => hok.out j (by rw [HL.out] at hj; exact hj), rfl, rfl⟩), hbw⟩
  · have ht' : (traceErr rs != 0) = true := by simpa using ht
    go_enter Try.func22, Try.ntmps22
    go_wp2_with (go_at_call 38; refine (checked_any A n c rs _ B h hB hn).mono ?_; rintro e w1 ⟨rfl, hb1⟩)
    go_ret2
    exact ⟨_, _, rfl, .inl ⟨ht, rfl, rfl⟩, hb1⟩
end Go.Proofs.Ytjdbclcafjlohaa
