/- One end of a stream: the plain law, the invariant through each call. -/
import Derived.Test.YthlhjaacjhlkhaaStA
namespace Go.Proofs.Ythlhjaacjhlkhaa
set_option maxHeartbeats 400000
set_option linter.unusedVariables false
set_option linter.unusedSimpArgs false
theorem byt_take {xs : List Int} (h : Byt xs) (n : Nat) : Byt (xs.take n) := fun x hx => h x (List.mem_of_mem_take hx)
theorem byt_drop {xs : List Int} (h : Byt xs) (n : Nat) : Byt (xs.drop n) := fun x hx => h x (List.mem_of_mem_drop hx)
theorem byt_app {xs ys : List Int} (h : Byt xs) (h' : Byt ys) : Byt (xs ++ ys) := fun x hx => by
  rcases List.mem_append.1 hx with hx | hx
  · exact h x hx
  · exact h' x hx
namespace Sm
variable {s : Sm} {m : Nat}
theorem acked_le (s : Sm) : s.acked ≤ s.said.length := Nat.min_le_right _ _
theorem out_len (s : Sm) : s.out.length = s.said.length - s.acked := by simp [out]
theorem inn_len (s : Sm) : s.inn.length = s.got.length - s.rd := by simp [inn]
theorem Ok.more (h : Ok s m) : Ok s (m + 1) := { h with said := by have := h.said; omega, got := by have := h.got; omega }
theorem Ok.given (h : Ok s m) {d : List Int} (hd : Byt d) : Ok (givenS s d) (m + 1) := by
  unfold givenS
  split
  · have e : acked { s with said := s.said ++ d.take (givenN s d) } = min (s.una - 1) (s.said.length + min (givenN s d) d.length) := by simp [acked, List.length_append, List.length_take]
    have hr := h.room
    have hs := h.said
    have ht := h.tl
    have hg : givenN s d ≤ 64 - (s.said.length - s.acked) := Nat.min_le_right _ _
    have hl : (s.said ++ d.take (givenN s d)).length = s.said.length + min (givenN s d) d.length := by simp [List.length_append, List.length_take]
    have ha : s.acked = min (s.una - 1) s.said.length := rfl
    refine { h with said := ?_, got := ?_, room := ?_, tl := ?_, bs := byt_app h.bs (byt_take hd _) }
    · show (s.said ++ d.take (givenN s d)).length ≤ _
      rw [hl]; omega
    · have := h.got; show s.got.length ≤ _; omega
    · rw [e]; show (s.said ++ d.take (givenN s d)).length - _ ≤ 64
      rw [hl]; omega
    · show s.top ≤ (s.said ++ d.take (givenN s d)).length + 2
      rw [hl]; omega
  · exact h.more
theorem Ok.taken (h : Ok s m) (n : Int) : Ok (takenS s n) (m + 1) := by
  unfold takenS
  split
  · have hm := h.more
    have hN : takenN s n ≤ s.inn.length := Nat.min_le_right _ _
    rw [inn_len] at hN
    have hrd := h.rd
    have hrr := h.rroom
    refine { hm with rd := ?_, rroom := ?_, early := fun h3 => ?_ }
    · show s.rd + takenN s n ≤ s.got.length; omega
    · show s.got.length - (s.rd + takenN s n) ≤ 64; omega
    · obtain ⟨e1, e2, e3, e4, e5⟩ := h.early h3
      refine ⟨e1, e2, e3, ?_, e5⟩
      show s.rd + takenN s n = 0
      rw [e3] at hN
      simp at hN
      omega
  · exact h.more
theorem Ok.closed (h : Ok s m) : Ok (closedS s) (m + 1) := by
  unfold closedS
  split
  · exact { h.more with }
  · exact h.more
theorem Ok.ticked (h : Ok s m) : Ok (tickedS s) (m + 1) := by
  unfold tickedS
  have hm := h.more
  split
  · exact hm
  · rename_i h1
    split
    · split
      · refine { hm with st0 := by simp, st5 := by simp, wait := by simp, tries := ⟨by simp, fun h => by simp at h⟩, early := fun h => by simp at h, late := fun h => by simp at h }
      · rename_i h3
        have h6 := h.tries.2 (by omega)
        refine { hm with wait := by simp, tries := ⟨?_, fun _ => ?_⟩, un := Nat.le_refl _, nt := ?_ }
        · show s.una ≤ s.top; have := h.un; have := h.nt; omega
        · show s.tries + 1 ≤ 7; omega
        · show s.tries + 1 ≤ 6; omega
    · rename_i h2
      have := h.wait
      refine { hm with wait := ?_ }
      show s.wait + 1 ≤ 2; omega
theorem Ok.data (h : Ok s m) (h4 : s.st = 4) {x : Sg} (hx : x.Fine) : Ok (dataS s x) (m + 1) := by
  have hm := h.more
  unfold dataS
  split
  · exact hm
  · split
    · rename_i h1
      have hl := h.rd
      have hg := h.got
      have h2 := h1.2.2.2
      rw [inn_len] at h2
      refine { hm with got := ?_, rd := ?_, rroom := ?_, early := fun h => ?_, bg := byt_app h.bg hx.byt }
      · show (s.got ++ x.dat).length ≤ _
        have := hx.len
        rw [List.length_append]; omega
      · show s.rd ≤ (s.got ++ x.dat).length
        rw [List.length_append]; omega
      · show (s.got ++ x.dat).length - s.rd ≤ 64
        rw [List.length_append]; omega
      · have : s.st ≤ 3 := h
        omega
    · exact { hm with }
theorem Ok.opened (h : Ok s m) (h3 : s.st ≤ 3) (ht : s.top = 1) {w : Int} (hw : 0 ≤ w ∧ w ≤ 255) (hgot : s.got = []) : Ok (openS s w) m := by
  unfold openS
  have hr := h.room
  obtain ⟨e1, e2, e3, e4, e5⟩ := h.early h3
  have ha : s.acked = min (s.una - 1) s.said.length := rfl
  refine { h with st0 := by simp, st5 := by simp, room := ?_, un := by simp, nt := ?_, tl := ?_, early := fun h => by simp at h, late := fun _ => by simp, wait := by simp, tries := ⟨by simp, fun _ => by simp⟩, peer := hw }
  · show s.said.length - min (1 - 1) s.said.length ≤ 64
    omega
  · show 1 ≤ s.top; omega
  · show s.top ≤ s.said.length + 2; omega
theorem Ok.answer (h : Ok s m) (h4 : s.st = 4) {x : Sg} (hx : x.Fine) : Ok (answerS s x) m := by
  unfold answerS
  split
  · rename_i h1
    have hd0 : 0 ≤ s.dI x := by unfold dI; omega
    obtain ⟨dn, hdn⟩ : ∃ dn : Nat, s.dI x = dn := ⟨(s.dI x).toNat, by omega⟩
    rw [hdn] at h1
    simp only [hdn, Int.toNat_natCast]
    have hun := h.un
    have hnt := h.nt
    have htl := h.tl
    have hr := h.room
    have hl := h.late h4
    have ha : s.acked = min (s.una - 1) s.said.length := rfl
    have hle : dn ≤ s.top - s.una := by omega
    refine { h with room := ?_, un := ?_, nt := ?_, tl := ?_, early := fun h3 => ?_, late := fun _ => ?_, wait := ?_, tries := ⟨by simp, fun _ => by simp⟩, peer := hx.window }
    · show s.said.length - min (s.una + dn - 1) s.said.length ≤ 64; omega
    · show s.una + dn ≤ max s.nxt (s.una + dn); omega
    · show max s.nxt (s.una + dn) ≤ s.top; omega
    · show s.top ≤ s.said.length + 2; omega
    · have : s.st ≤ 3 := h3; omega
    · show 1 ≤ s.una + dn; omega
    · show (if 0 < (dn : Int) then 0 else s.wait) ≤ 2
      have := h.wait
      split <;> omega
  · exact h
theorem Ok.came (h : Ok s m) {x : Sg} (hx : x.Fine) : Ok (cameS s x) (m + 1) := by
  have hm := h.more
  unfold cameS
  split
  · exact hm
  · split
    · split
      · exact { hm with st0 := by simp, st5 := by simp, early := fun h => by simp at h, late := fun h => by simp at h, tries := ⟨h.tries.1, fun h => by simp at h⟩ }
      · exact hm
    · split
      · rename_i h1
        split
        · have := h.early (by omega)
          exact { hm with st0 := by simp, st5 := by simp, irs := hx.seq, peer := hx.window, early := fun _ => this, late := fun h => by simp at h, tries := ⟨h.tries.1, fun _ => h.tries.2 (by omega)⟩ }
        · exact hm
      · split
        · rename_i h2
          split
          · rename_i h5
            have he := h.early (by omega)
            have ht : s.top = 1 := by
              have := h5.2
              unfold mineB at this
              simp at this
              exact this.2
            have hm' : Ok { s with irs := x.seq, due := true } (m + 1) := { hm with irs := hx.seq }
            exact hm'.opened (by show s.st ≤ 3; omega) ht hx.window he.2.2.1
          · exact hm
        · split
          · rename_i h3
            have he := h.early (by omega)
            split
            · exact { hm with un := by show s.una ≤ 0; omega, nt := by simp }
            · split
              · rename_i h5
                have ht : s.top = 1 := by
                  have := h5.1
                  unfold mineB at this
                  simp at this
                  exact this.2
                exact (h.opened (by omega) ht hx.window he.2.2.1).data rfl hx
              · exact hm
          · rename_i h5 _ h1 h2 h3
            have h0 := h.st0
            have h6 := h.st5
            have h4 : s.st = 4 := by omega
            split
            · exact h.data h4 hx
            · have := h.answer h4 hx
              refine this.data ?_ hx
              unfold answerS
              split
              · exact h4
              · exact h4
theorem Ok.say (h : Ok s m) {p : Nat} (hp : s.nxt + p ≤ s.said.length + 2) (he : s.st ≤ 3 → s.nxt + p ≤ 1) : Ok (sayS s p) m := by
  have hun := h.un
  have hnt := h.nt
  have htl := h.tl
  refine { h with un := ?_, nt := ?_, tl := ?_, early := fun h3 => ?_ }
  · show s.una ≤ s.nxt + p; omega
  · show s.nxt + p ≤ max s.top (s.nxt + p); omega
  · show max s.top (s.nxt + p) ≤ s.said.length + 2; omega
  · obtain ⟨e1, e2, e3⟩ := h.early h3
    refine ⟨e1, ?_, e3⟩
    have := he h3
    show max s.top (s.nxt + p) ≤ 1; omega
theorem say_st (s : Sm) (p : Nat) : (sayS s p).st = s.st ∧ (sayS s p).said = s.said ∧ (sayS s p).una = s.una ∧ (sayS s p).nxt = s.nxt + p ∧ (sayS s p).got = s.got ∧ (sayS s p).rd = s.rd ∧ (sayS s p).peer = s.peer ∧ (sayS s p).shut = s.shut ∧ (sayS s p).acked = s.acked := ⟨rfl, rfl, rfl, rfl, rfl, rfl, rfl, rfl, rfl⟩
theorem Ok.loop {lim : Nat} (hlim : lim ≤ s.said.length) : ∀ (f : Nat) {s' : Sm}, Ok s' m → s'.said = s.said → s'.st = 4 → Ok (loopO lim f s').2 m ∧ (loopO lim f s').2.said = s.said ∧ (loopO lim f s').2.st = 4
  | 0, s', h, e, h4 => ⟨h, e, h4⟩
  | f + 1, s', h, e, h4 => by
    unfold loopO
    split
    · rename_i hlt
      have h1 := h.late h4
      have h2 := h.un
      exact Ok.loop hlim f (h.say (p := min 32 (lim - (s'.nxt - 1))) (by rw [e]; omega) (by omega)) e h4
    · exact ⟨h, e, h4⟩
theorem limit_le (s : Sm) : s.limitN ≤ s.said.length := Nat.min_le_right _ _
theorem Ok.outs (h : Ok s m) : Ok (outsO s).2 (m + 1) := by
  unfold outsO
  split
  · rename_i h4
    unfold openO
    obtain ⟨h1, h2, h3⟩ := Ok.loop (limit_le s) 64 h rfl h4
    have hf : Ok (finO (loopO s.limitN 64 s).2).2 m ∧ (finO (loopO s.limitN 64 s).2).2.said = s.said ∧ (finO (loopO s.limitN 64 s).2).2.st = 4 := by
      unfold finO
      split
      · rename_i h5
        have := h5.2
        rw [h2] at this
        have hl := h1.late h3
        have hu := h1.un
        refine ⟨h1.say (p := 1) (by rw [h2]; omega) (by omega), h2, h3⟩
      · exact ⟨h1, h2, h3⟩
    obtain ⟨f1, f2, f3⟩ := hf
    show Ok (dueO (finO (loopO s.limitN 64 s).2).2).2 (m + 1)
    unfold dueO
    split
    · have := f1.nt
      have := f1.tl
      exact (f1.say (p := 0) (by omega) (by omega)).more
    · exact f1.more
  · rename_i h4
    unfold synO
    split
    · rename_i h5
      exact (h.say (p := 1) (by omega) (by omega)).more
    · exact h.more
end Sm
end Go.Proofs.Ythlhjaacjhlkhaa
