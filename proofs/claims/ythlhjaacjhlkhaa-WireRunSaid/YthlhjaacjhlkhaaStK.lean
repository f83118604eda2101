/- One end of a stream: what the program's cells say of the state as the reference keeps it; the plain law of each call. -/
import Derived.Test.YthlhjaacjhlkhaaStI
namespace Go.Proofs.Ythlhjaacjhlkhaa
set_option maxHeartbeats 400000
set_option linter.unusedVariables false
set_option linter.unusedSimpArgs false
/-- The program's cells say the state s. -/
structure Tie (s : Sm) (x : EC) : Prop where
  st : x.st = s.st
  una : x.una = s.seqI s.una
  nxt : x.nxt = s.seqI s.nxt
  top : x.top = s.seqI s.top
  first : x.first = (s.iss + 1 + s.acked) % 4294967296
  rcv : s.st = 3 ∨ s.st = 4 → x.rcv = s.awI
  peer : x.peer = s.peer
  shut : x.shut = s.shut
  fin : x.fin = s.fin
  due : x.due = s.due
  wait : x.wait = s.wait
  tries : x.tries = s.tries
/-- Only an end that is shut says more than its bytes. -/
def Sm.Fn (s : Sm) : Prop := s.shut = false → s.top ≤ s.said.length + 1
namespace Sm
variable {s : Sm} {m : Nat}
theorem Fn.start (st iss : Int) : Fn (start st iss) := fun _ => by simp [Sm.start]
theorem Fn.given (h : Fn s) (d : List Int) : Fn (givenS s d) := by
  unfold givenS
  split
  · intro h1
    have := h h1
    show s.top ≤ (s.said ++ d.take (givenN s d)).length + 1
    rw [List.length_append]; omega
  · exact h
theorem Fn.taken (h : Fn s) (n : Int) : Fn (takenS s n) := by
  unfold takenS
  split
  · exact h
  · exact h
theorem Fn.closed (h : Fn s) : Fn (closedS s) := by
  unfold closedS
  split
  · intro h1; cases h1
  · exact h
theorem Fn.ticked (h : Fn s) : Fn (tickedS s) := by
  unfold tickedS
  (repeat' split) <;> exact h
theorem Fn.data (h : Fn s) (x : Sg) : Fn (dataS s x) := by
  unfold dataS
  (repeat' split) <;> exact h
theorem Fn.answer (h : Fn s) (x : Sg) : Fn (answerS s x) := by
  unfold answerS
  split <;> exact h
theorem Fn.came (h : Fn s) (x : Sg) : Fn (cameS s x) := by
  have ho : ∀ w : Int, Fn (openS s w) := fun w => h
  have ho2 : ∀ w : Int, Fn (openS { s with irs := x.seq, due := true } w) := fun w => h
  unfold cameS
  (repeat' split) <;> first | exact h | exact ho2 _ | exact (ho _).data x | exact h.data x | exact (h.answer x).data x
theorem Fn.say (h : Fn s) {p : Nat} (hp : s.shut = false → s.nxt + p ≤ s.said.length + 1) : Fn (sayS s p) := fun h1 => by
  have := h h1
  have := hp h1
  show max s.top (s.nxt + p) ≤ s.said.length + 1
  omega
end Sm
theorem Tie.start (st iss : Int) (hi : 0 ≤ iss ∧ iss < 4294967296) (hs : st = 1 ∨ st = 2) : Tie (Sm.start st iss) (exB st iss) := by
  refine ⟨rfl, ?_, ?_, ?_, ?_, fun h => ?_, rfl, rfl, rfl, rfl, rfl, rfl⟩
  · show iss = (iss + (0 : Nat)) % 4294967296; omega
  · show iss = (iss + (0 : Nat)) % 4294967296; omega
  · show iss = (iss + (0 : Nat)) % 4294967296; omega
  · show (iss + 1) % 4294967296 = (iss + 1 + (min (0 - 1) 0 : Nat)) % 4294967296
    simp
  · have h : st = 3 ∨ st = 4 := h
    omega
section
variable {s : Sm} {x : EC} {m : Nat}
theorem Tie.begun (t : Tie s x) : begunB x = (decide (2 ≤ s.st) && decide (s.st ≤ 4)) := by unfold begunB; rw [t.st]
theorem begun_false (t : Tie s x) : begunB x = false ↔ s.st < 2 ∨ 4 < s.st := by
  rw [t.begun]; simp; omega
/-! Write -/
theorem tie_givenE (t : Tie s x) (ok : s.Ok m) (d : List Int) : stWE x s.out.length d.length = s.givenE d := by
  have hl := s.out_len
  have hr := ok.room
  have h5 := ok.st5
  unfold stWE Sm.givenE Sm.roomN
  rw [t.st, t.shut]
  simp only [begun_false t]
  by_cases h1 : 256 < d.length
  · rw [if_pos h1, if_pos h1]
  rw [if_neg h1, if_neg h1]
  by_cases h2 : s.st = 5
  · rw [if_pos h2, if_pos h2]
  rw [if_neg h2, if_neg h2]
  by_cases h3 : s.st < 2 ∨ s.shut = true
  · rw [if_pos (show (s.st < 2 ∨ 4 < s.st) ∨ s.shut = true by rcases h3 with h3 | h3; exact .inl (.inl h3); exact .inr h3), if_pos h3]
  · rw [if_neg (show ¬ ((s.st < 2 ∨ 4 < s.st) ∨ s.shut = true) by intro h; rcases h with (h | h) | h; exact h3 (.inl h); omega; exact h3 (.inr h)), if_neg h3]
    by_cases h4 : 0 < d.length ∧ s.out.length = 64
    · rw [if_pos h4, if_pos (by omega)]
    · rw [if_neg h4, if_neg (by omega)]
theorem tie_givenN (t : Tie s x) (ok : s.Ok m) (d : List Int) : ((stWN x s.out.length d.length : Nat) : Int) = if s.givenE d = 0 then s.givenN d else 0 := by
  have hl := s.out_len
  unfold stWN
  rw [tie_givenE t ok]
  by_cases h : s.givenE d = 0
  · rw [if_pos h, if_pos h]
    unfold Sm.givenN Sm.roomN
    rw [hl]
  · rw [if_neg h, if_neg h]
theorem given_room (ok : s.Ok m) (fn : s.Fn) {d : List Int} (h : s.givenE d = 0) : s.una - 1 ≤ s.said.length := by
  have h1 : s.shut = false := by
    unfold Sm.givenE at h
    split at h
    · cases h
    · split at h
      · cases h
      · split at h
        · cases h
        · rename_i h3
          cases hs : s.shut with
          | true => exact absurd (.inr hs) h3
          | false => rfl
  have := fn h1
  have := ok.un
  have := ok.nt
  omega
theorem tie_givenX (t : Tie s x) (ok : s.Ok m) (fn : s.Fn) (d : List Int) : Tie (s.givenS d) x ∧ stWX x s.out d = (s.givenS d).out ∧ s.inn = (s.givenS d).inn := by
  unfold stWX Sm.givenS
  rw [tie_givenE t ok]
  by_cases h : s.givenE d = 0
  · rw [if_pos h, if_pos h]
    have hu := given_room ok fn h
    have ha : Sm.acked { s with said := s.said ++ d.take (s.givenN d) } = s.acked := by
      show min (s.una - 1) (s.said ++ d.take (s.givenN d)).length = min (s.una - 1) s.said.length
      rw [List.length_append]; omega
    refine ⟨⟨t.st, t.una, t.nxt, t.top, ?_, t.rcv, t.peer, t.shut, t.fin, t.due, t.wait, t.tries⟩, ?_, rfl⟩
    · rw [ha]; exact t.first
    · show _ = (s.said ++ d.take (s.givenN d)).drop (Sm.acked { s with said := s.said ++ d.take (s.givenN d) })
      rw [ha, List.drop_append_of_le_length s.acked_le, s.out_len]
      rfl
  · rw [if_neg h, if_neg h]
    exact ⟨t, rfl, rfl⟩
/-! Read -/
theorem tie_takenE (t : Tie s x) (ok : s.Ok m) (n : Int) : stRE x s.inn.length n = s.takenE n := by
  have h0 := ok.st0
  unfold stRE Sm.takenE
  rw [t.st, t.fin]
  by_cases h1 : n < 0 ∨ 256 < n
  · rw [if_pos h1, if_pos h1]
  rw [if_neg h1, if_neg h1]
  by_cases h2 : s.st < 2
  · rw [if_pos (by omega), if_pos h2]
  · rw [if_neg (by omega), if_neg h2]
theorem tie_takenX (t : Tie s x) (ok : s.Ok m) (n : Int) : Tie (s.takenS n) (stRX x s.inn.length n) ∧ s.out = (s.takenS n).out ∧ stRY x s.inn n = (s.takenS n).inn ∧ stRV x s.inn n = s.takenV n := by
  unfold stRX Sm.takenS stRY stRV Sm.takenV
  rw [tie_takenE t ok]
  by_cases h : s.takenE n = 0
  · rw [if_pos h, if_pos h, if_pos h, if_pos h, if_pos h]
    refine ⟨⟨t.st, t.una, t.nxt, t.top, t.first, t.rcv, t.peer, t.shut, t.fin, ?_, t.wait, t.tries⟩, rfl, ?_, rfl⟩
    · show (x.due || _) = (s.due || _)
      rw [t.due, t.st]
      rfl
    · show (s.got.drop s.rd).drop _ = s.got.drop (s.rd + s.takenN n)
      rw [List.drop_drop]
      rfl
  · rw [if_neg h, if_neg h, if_neg h, if_neg h, if_neg h]
    exact ⟨t, rfl, rfl, rfl⟩
/-! Shut -/
theorem tie_closedE (t : Tie s x) : shutE x = s.closedE := by
  unfold shutE Sm.closedE
  rw [t.shut]
  simp only [begun_false t]
  by_cases h : s.st < 2 ∨ 4 < s.st ∨ s.shut = true
  · rw [if_pos h, if_pos (by rcases h with h | h | h; exact .inl (.inl h); exact .inl (.inr h); exact .inr h)]
  · rw [if_neg h, if_neg (by intro h'; rcases h' with (h' | h') | h'; exact h (.inl h'); exact h (.inr (.inl h')); exact h (.inr (.inr h')))]
theorem tie_closedX (t : Tie s x) : Tie s.closedS (shutX x) ∧ s.out = s.closedS.out ∧ s.inn = s.closedS.inn := by
  unfold shutX Sm.closedS
  rw [tie_closedE t]
  by_cases h : s.closedE = 0
  · rw [if_pos h, if_pos h]
    exact ⟨⟨t.st, t.una, t.nxt, t.top, t.first, t.rcv, t.peer, rfl, t.fin, t.due, t.wait, t.tries⟩, rfl, rfl⟩
  · rw [if_neg h, if_neg h]
    exact ⟨t, rfl, rfl⟩
/-! Tick -/
theorem seqI_inj (ok : s.Ok m) {a b : Nat} (ha : a ≤ 1000000) (hb : b ≤ 1000000) : s.seqI a = s.seqI b ↔ a = b := by
  unfold Sm.seqI
  omega
theorem Sm.Ok.top_le (ok : s.Ok m) (hm : m ≤ 1000) : s.top ≤ 64002 := by
  have := ok.tl
  have := ok.said
  omega
theorem tie_ticked (t : Tie s x) (ok : s.Ok m) (hm : m ≤ 1000) : Tie s.tickedS (tickX x) ∧ s.out = s.tickedS.out ∧ s.inn = s.tickedS.inn := by
  have ht := ok.top_le hm
  have hn := ok.nt
  have hu := ok.un
  have hw := ok.wait
  have h6 := ok.tries
  have he : x.una = x.nxt ↔ s.una = s.nxt := by rw [t.una, t.nxt]; exact seqI_inj ok (by omega) (by omega)
  have hc : (begunB x = false ∨ x.una = x.nxt) ↔ (s.st < 2 ∨ 4 < s.st ∨ s.una = s.nxt) := by
    rw [he, begun_false t]
    omega
  unfold tickX Sm.tickedS
  by_cases h : s.st < 2 ∨ 4 < s.st ∨ s.una = s.nxt
  · rw [if_pos h, if_pos (hc.2 h)]
    exact ⟨t, rfl, rfl⟩
  rw [if_neg h, if_neg (fun h' => h (hc.1 h'))]
  rw [t.wait, t.tries]
  by_cases h2 : s.wait = 2
  · rw [if_pos h2, if_neg (show ¬ (s.wait : Int) + 1 < 3 by omega)]
    by_cases h3 : s.tries = 6
    · rw [if_pos h3, if_pos (show (6 : Int) < s.tries + 1 by omega)]
      refine ⟨⟨rfl, t.una, t.nxt, t.top, t.first, fun h4 => ?_, t.peer, t.shut, t.fin, t.due, rfl, ?_⟩, rfl, rfl⟩
      · have h4 : (5 : Int) = 3 ∨ (5 : Int) = 4 := h4
        omega
      · show (s.tries : Int) + 1 = ((7 : Nat) : Int); omega
    · have h7 := h6.2 (by omega)
      rw [if_neg h3, if_neg (show ¬ (6 : Int) < s.tries + 1 by omega)]
      exact ⟨⟨t.st, t.una, t.una, t.top, t.first, t.rcv, t.peer, t.shut, t.fin, t.due, rfl, rfl⟩, rfl, rfl⟩
  · rw [if_neg h2, if_pos (show (s.wait : Int) + 1 < 3 by omega)]
    exact ⟨⟨t.st, t.una, t.nxt, t.top, t.first, t.rcv, t.peer, t.shut, t.fin, t.due, rfl, rfl⟩, rfl, rfl⟩
/-! Tell -/
theorem tie_told (t : Tie s x) (ok : s.Ok m) (hm : m ≤ 1000) : (s.out.length : Int) = (s.said.length : Int) - s.acked ∧ (s.inn.length : Int) = (s.got.length : Int) - s.rd ∧ allX x s.out.length = s.allB := by
  have ha := s.acked_le
  have hr := ok.rd
  refine ⟨by rw [s.out_len]; omega, by rw [s.inn_len]; omega, ?_⟩
  unfold allX Sm.allB
  rw [t.shut, t.st, t.una, t.first, s.out_len]
  have ht := ok.top_le hm
  have hn := ok.nt
  have hu := ok.un
  have hd : s.acked = min (s.una - 1) s.said.length := rfl
  have e : (s.said.length - s.acked = 0 ∧ s.seqI s.una = ((s.iss + 1 + s.acked) % 4294967296 + 1) % 4294967296) ↔ s.una = s.said.length + 2 := by
    have hl := ok.said
    unfold Sm.seqI
    omega
  have e2 : (decide (s.said.length - s.acked = 0) && decide (s.seqI s.una = ((s.iss + 1 + s.acked) % 4294967296 + 1) % 4294967296)) = decide (s.una = s.said.length + 2) := by
    rw [← Bool.decide_and]
    exact decide_eq_decide.2 e
  rw [Bool.and_assoc s.shut, e2]
/-! Come -/
theorem sgf_span (y : Sg) (hf : 0 ≤ y.flags ∧ y.flags ≤ 15) : spanF y.flags y.dat.length = y.span := by
  unfold spanF Sg.span Sg.syn Sg.fi
  by_cases h1 : y.flags % 2 = 1 <;> by_cases h2 : y.flags / 4 % 2 = 1 <;> simp [h1, h2] <;> omega
theorem tie_data (t : Tie s x) (ok : s.Ok m) (h4 : s.st = 4) (y : Sg) (hy : y.Fine) : Tie (s.dataS y) (tkX x s.inn.length y.seq y.flags y.dat.length) ∧ s.out = (s.dataS y).out ∧ tkY x s.inn y.seq y.flags y.dat = (s.dataS y).inn := by
  have hsp := sgf_span y hy.flags
  have hsy : y.syn = false ↔ y.flags % 2 = 0 := by unfold Sg.syn; simp; omega
  have hrd := ok.rd
  unfold tkX tkY Sm.dataS
  rw [hsp]
  by_cases h0 : y.span = 0
  · have hz : (y.span : Int) = 0 := by omega
    rw [if_pos h0, if_pos hz, if_pos hz]
    exact ⟨t, rfl, rfl⟩
  have hz : ¬ (y.span : Int) = 0 := by omega
  rw [if_neg h0, if_neg hz, if_neg hz]
  have hrc := t.rcv (.inr h4)
  by_cases hg : y.syn = false ∧ y.seq = s.awI ∧ s.fin = false ∧ s.inn.length + y.dat.length ≤ 64
  · have hg' : tkGood x s.inn.length y.seq y.flags y.dat.length := ⟨hsy.1 hg.1, by rw [hrc]; exact hg.2.1, by rw [t.fin]; exact hg.2.2.1, hg.2.2.2⟩
    rw [if_pos hg, if_pos hg', if_pos hg']
    refine ⟨⟨t.st, t.una, t.nxt, t.top, t.first, fun _ => ?_, t.peer, t.shut, rfl, rfl, t.wait, t.tries⟩, rfl, ?_⟩
    · show (x.rcv + y.span) % 4294967296 = (s.irs + 1 + (s.got ++ y.dat).length + (if y.fi = true then 1 else 0)) % 4294967296
      rw [hrc, List.length_append]
      unfold Sm.awI Sg.span
      rw [hg.2.2.1, hg.1]
      simp only [Bool.false_eq_true, if_false]
      split <;> omega
    · show s.inn ++ y.dat = (s.got ++ y.dat).drop s.rd
      rw [List.drop_append_of_le_length hrd]
      rfl
  · have hg' : ¬ tkGood x s.inn.length y.seq y.flags y.dat.length := fun h => hg ⟨hsy.2 h.1, by rw [← hrc]; exact h.2.1, by rw [← t.fin]; exact h.2.2.1, h.2.2.2⟩
    rw [if_neg hg, if_neg hg', if_neg hg']
    exact ⟨⟨t.st, t.una, t.nxt, t.top, t.first, t.rcv, t.peer, t.shut, t.fin, rfl, t.wait, t.tries⟩, rfl, rfl⟩
theorem tie_answer (t : Tie s x) (ok : s.Ok m) (hm : m ≤ 1000) (h4 : s.st = 4) (y : Sg) (hy : y.Fine) : Tie (s.answerS y) (anX x s.out.length y.ack y.flags y.window) ∧ anXs x s.out y.ack y.flags = (s.answerS y).out ∧ s.inn = (s.answerS y).inn := by
  have ht := ok.top_le hm
  have hn := ok.nt
  have hu := ok.un
  have hl := ok.late h4
  have hsd := ok.said
  have ha : s.acked = min (s.una - 1) s.said.length := rfl
  have hak := hy.ack
  have hac : y.ac = true ↔ ¬ y.flags / 2 % 2 = 0 := by unfold Sg.ac; simp; omega
  have hbad : anBad x y.ack y.flags ↔ ¬ (y.ac = true ∧ s.dI y ≤ s.top - s.una) := by
    unfold anBad befB Sm.dI
    rw [hac, t.top, t.una]
    simp only [decide_eq_true_eq]
    unfold Sm.seqI
    omega
  have hN : anN x y.ack = s.dI y := by unfold anN Sm.dI; rw [t.una]
  unfold anX anXs Sm.answerS
  by_cases hb : y.ac = true ∧ s.dI y ≤ s.top - s.una
  · have hb' : ¬ anBad x y.ack y.flags := fun h => hbad.1 h hb
    rw [if_pos hb, if_neg hb', if_neg hb', hN]
    have hd0 : 0 ≤ s.dI y := by unfold Sm.dI; omega
    have hdd : s.dI y = (y.ack - s.seqI s.una) % 4294967296 := rfl
    obtain ⟨dn, hdn⟩ : ∃ dn : Nat, s.dI y = dn := ⟨(s.dI y).toNat, by omega⟩
    rw [hdn] at hb hdd
    simp only [hdn, Int.toNat_natCast]
    have hle : dn ≤ s.top - s.una := by have := hb.2; omega
    by_cases hz : dn = 0
    · subst hz
      rw [if_pos (show ((0 : Nat) : Int) = 0 from rfl), if_pos (show ((0 : Nat) : Int) = 0 from rfl)]
      refine ⟨⟨t.st, t.una, ?_, t.top, t.first, t.rcv, rfl, t.shut, t.fin, t.due, ?_, rfl⟩, rfl, rfl⟩
      · show x.nxt = s.seqI (max s.nxt (s.una + 0))
        rw [t.nxt, show max s.nxt (s.una + 0) = s.nxt by omega]
      · show x.wait = ((if 0 < ((0 : Nat) : Int) then 0 else s.wait : Nat) : Int)
        rw [t.wait]; rfl
    · have hz' : ¬ (dn : Int) = 0 := by omega
      rw [if_neg hz', if_neg hz']
      have hD : anD x y.ack s.out.length = min dn (s.said.length - s.acked) := by
        unfold anD
        rw [hN, hdn, s.out_len]
        rfl
      have hack : y.ack = s.seqI (s.una + dn) := by
        unfold Sm.seqI at hdd ⊢
        omega
      have hA : Sm.acked { s with tries := 0, peer := y.window, una := s.una + dn, wait := if 0 < (dn : Int) then 0 else s.wait, nxt := max s.nxt (s.una + dn) } = s.acked + anD x y.ack s.out.length := by
        rw [hD]
        show min (s.una + dn - 1) s.said.length = _
        omega
      refine ⟨⟨t.st, hack, ?_, t.top, ?_, t.rcv, rfl, t.shut, t.fin, t.due, ?_, rfl⟩, ?_, rfl⟩
      · show (if befB x.nxt y.ack = true then y.ack else x.nxt) = s.seqI (max s.nxt (s.una + dn))
        have hbf : befB x.nxt y.ack = true ↔ s.nxt < s.una + dn := by
          rw [hack, t.nxt]
          unfold befB
          simp only [decide_eq_true_eq]
          unfold Sm.seqI
          omega
        by_cases h1 : s.nxt < s.una + dn
        · rw [if_pos (hbf.2 h1), show max s.nxt (s.una + dn) = s.una + dn by omega]
          exact hack
        · rw [if_neg (fun h => h1 (hbf.1 h)), show max s.nxt (s.una + dn) = s.nxt by omega]
          exact t.nxt
      · rw [hA]
        show (x.first + _) % 4294967296 = (s.iss + 1 + _) % 4294967296
        rw [t.first]
        omega
      · have h9 : 0 < (dn : Int) := by omega
        show (0 : Int) = ((if 0 < (dn : Int) then 0 else s.wait : Nat) : Int)
        rw [if_pos h9]
        rfl
      · show _ = s.said.drop (Sm.acked { s with tries := 0, peer := y.window, una := s.una + dn, wait := if 0 < (dn : Int) then 0 else s.wait, nxt := max s.nxt (s.una + dn) })
        rw [hA, ← List.drop_drop]
        rfl
  · rw [if_neg hb, if_pos (hbad.2 hb), if_pos (hbad.2 hb)]
    exact ⟨t, rfl, rfl⟩
end
end Go.Proofs.Ythlhjaacjhlkhaa
