/- A heap with keys of type ByteArray: contracts of New, Len, Peek, Key, Turn. -/
import Derived.Test.YtenhcpobncmedaaHpFS
namespace Go.Proofs.Ytenhcpobncmedaa.HS
open Go.RowKit
set_option maxHeartbeats 400000
set_option linter.unusedVariables false
set_option linter.unusedSimpArgs false
/-- A heap between two calls. -/
structure Ok (w : World) (B g b : Nat) (vi vk : Value) (ps : List (Int × ByteArray)) (f : Int → Option Int) (cnt : Nat) : Prop where
  st : St w B g b vi vk ps f cnt
  pos : Pos zp ps f
  heap : Heap (bef klt) ps.length (pf ps)
  wf : ∀ p ∈ ps, (Lit.int .i64 p.1).wf = true
/-- Behind a call: the pairs are those of qs. -/
def GoOk (w : World) (B g b : Nat) (vi vk : Value) (qs : List (Int × ByteArray)) (cnt : Nat) (w' : World) : Prop :=
  ∃ vi' vk' ps' f', Ok w' B g b vi' vk' ps' f' cnt ∧ ps'.Perm qs ∧ Fr (F g b vi vk) w w' ∧ ∀ k, F g b vi' vk' k → F g b vi vk k ∨ w.heap.size ≤ k
namespace Ok
variable {w w' : World} {B g b : Nat} {vi vk : Value} {ps : List (Int × ByteArray)} {f : Int → Option Int} {cnt : Nat}
theorem keep {S : Nat → Prop} (h : Ok w B g b vi vk ps f cnt) (hf : Fr S w w') (hn : ∀ k, F g b vi vk k → ¬ S k) : Ok w' B g b vi vk ps f cnt := ⟨h.st.keep hf hn, h.pos, h.heap, h.wf⟩
theorem grow (h : Ok w B g b vi vk ps f cnt) (hb : Below w.heap.size w w') : Ok w' B g b vi vk ps f cnt := ⟨h.st.grow hb, h.pos, h.heap, h.wf⟩
theorem drewN (h : Ok w B g b vi vk ps f cnt) (m : Nat) : Ok (w.drewN m) B g b vi vk ps f cnt := ⟨h.st.drewN m, h.pos, h.heap, h.wf⟩
theorem none_iff (h : Ok w B g b vi vk ps f cnt) (id : Int) : f id = none ↔ ∀ p ∈ ps, p.1 ≠ id := h.pos.none_iff id
/-- Where a number stands. -/
theorem some_at (h : Ok w B g b vi vk ps f cnt) {id v : Int} (hf : f id = some v) : ∃ i : Nat, i < ps.length ∧ v = i ∧ (ps.getD i zp).1 = id := h.pos.only id v hf
end Ok
set_option maxRecDepth 100000 in
theorem new37 (w : World) : Calls Try.prog 37 #[] w fun e w' => e = .returned (.pointer (some ⟨w.heap.size + 1, 0, none⟩)) ∧ w' = (w.alloc (.map #[] 0)).alloc (.cells #[.slice none 0 0, .slice none 0 0, .map (some w.heap.size)] 139) := by
  have hmk := wa_makeMap
  go_enter Try.func37, Try.ntmps37
  go_wp2
  go_ret
  exact ⟨rfl, rfl⟩
theorem new_ok (w : World) (B : Nat) (hB : B ≤ w.heap.size) : Ok ((w.alloc (.map #[] 0)).alloc (.cells #[.slice none 0 0, .slice none 0 0, .map (some w.heap.size)] 139)) B (w.heap.size + 1) w.heap.size (.slice none 0 0) (.slice none 0 0) [] (fun _ => none) 0 := by
  refine ⟨⟨?_, Row.nil _ _ _ _, Row.nil _ _ _ _, (IntMap.made Try.prog w 3 3).alloc _, by simp [Value.ownBlock], by omega, hB⟩, Pos.new, fun j h0 hj => by simp at hj, fun p hp => by simp at hp⟩
  have := Blk.new (w.alloc (.map #[] 0)) #[.slice none 0 0, .slice none 0 0, .map (some w.heap.size)] 139
  simpa using this
set_option maxRecDepth 100000 in
theorem len39 (g b : Nat) (vi vk : Value) (ps : List (Int × ByteArray)) (f : Int → Option Int) (cnt : Nat) (w : World) (B : Nat) (h : St w B g b vi vk ps f cnt) :
    Calls Try.prog 39 #[.pointer (some ⟨g, 0, none⟩)] w fun e w' => e = .returned (.int .i64 ps.length) ∧ w = w' := by
  obtain ⟨A, c, A', c', rfl, hc1, hc2, rfl, hc3, hc4⟩ := h.shapes
  have b0 := h.blk.cell 0
  have bl := h.blk.lt
  clear h
  generalize ps.length = n at *
  go_enter Try.func39, Try.ntmps39
  go_wp2
  go_ret
  exact ⟨rfl, rfl⟩
set_option maxRecDepth 100000 in
theorem peek_none (g b : Nat) (vi vk : Value) (f : Int → Option Int) (cnt : Nat) (w : World) (B : Nat) (h : St w B g b vi vk [] f cnt) :
    Calls Try.prog 108 #[.pointer (some ⟨g, 0, none⟩)] w fun e w' => e = .returned (.tuple #[.int .i64 0, .string ⟨#[]⟩, .int .i64 4]) ∧ w = w' := by
  obtain ⟨A, c, A', c', rfl, hc1, hc2, rfl, hc3, hc4⟩ := h.shapes
  have b0 := h.blk.cell 0
  have bl := h.blk.lt
  clear h
  go_enter Try.func108, Try.ntmps108
  go_wp2
  go_ret3
  exact ⟨rfl, rfl⟩
set_option maxRecDepth 100000 in
theorem peek_some (g b : Nat) (vi vk : Value) (ps : List (Int × ByteArray)) (f : Int → Option Int) (cnt : Nat) (w : World) (B : Nat) (h : St w B g b vi vk ps f cnt) (hn : 0 < ps.length) :
    Calls Try.prog 108 #[.pointer (some ⟨g, 0, none⟩)] w fun e w' => e = .returned (.tuple #[.int .i64 (ps.getD 0 zp).1, .string (ps.getD 0 zp).2, .int .i64 0]) ∧ ∃ nq, w' = w.drewN nq := by
  obtain ⟨A, c, A', c', rfl, hc1, hc2, rfl, hc3, hc4⟩ := h.shapes
  obtain ⟨qi, oi, rfl, _, hql, hci, hfi⟩ := row_cells (z := zp) h.ri hn
  obtain ⟨qk, ok, rfl, _, hqk, hck, hfk⟩ := row_cells (z := zp) h.rk hn
  have b0 := h.blk.cell 0
  have b1 := h.blk.cell 1
  have bl := h.blk.lt
  have ii : w.cell? ⟨qi, oi, none⟩ = some (.int .i64 (ps.getD 0 zp).1) := hci 0 hn
  have ki : w.cell? ⟨qk, ok, none⟩ = some (.string (ps.getD 0 zp).2) := hck 0 hn
  clear h hci hck hfi hfk
  generalize ps.getD 0 zp = p at *
  obtain ⟨xi, yi⟩ := p
  dsimp only at ii ki ⊢
  generalize ps.length = n at *
  have h0 : ¬ n = 0 := by omega
  have h0' : ((n : Int) == 0) = false := by simp; omega
  have h0i : (0 : Int) < n := by omega
  go_enter Try.func108, Try.ntmps108
  go_wp2_with fail
  refine wp_region_quiet_lit (by kernel_rfl) (by kernel_rfl) ?_
  repeat (go_big_quiet_step (fail))
  refine wpQuiet_nil ?_
  intro _ hw'
  obtain ⟨nq, hw''⟩ := hw'
  subst hw''
  go_wp2
  go_ret3
  exact ⟨rfl, nq, rfl⟩
set_option maxRecDepth 100000 in
theorem key_none (g b : Nat) (vi vk : Value) (ps : List (Int × ByteArray)) (f : Int → Option Int) (cnt : Nat) (id : Int) (w : World) (B : Nat) (h : St w B g b vi vk ps f cnt) (hid : (Lit.int .i64 id).wf = true) (hf : f id = none) :
    Calls Try.prog 109 #[.pointer (some ⟨g, 0, none⟩), .int .i64 id] w fun e w' => e = .returned (.tuple #[.string ⟨#[]⟩, .int .i64 4]) ∧ w = w' := by
  have b2 := h.blk.cell 2
  have bl := h.blk.lt
  have hlook := h.map.run_lookup_ok (t := 78) Try.underlying3 Try.underlying3 Try.underlying78 (wa_zero3 w) hid
  rw [hf] at hlook
  simp only [Option.getD_none, Option.isSome_none] at hlook
  clear h hf
  go_enter Try.func109, Try.ntmps109
  go_wp2
  go_ret2
  exact ⟨rfl, rfl⟩
set_option maxRecDepth 100000 in
theorem key_some (g b : Nat) (vi vk : Value) (ps : List (Int × ByteArray)) (f : Int → Option Int) (cnt : Nat) (id : Int) (i : Nat) (w : World) (B : Nat) (h : St w B g b vi vk ps f cnt) (hid : (Lit.int .i64 id).wf = true) (hf : f id = some (i : Int)) (hi : i < ps.length) :
    Calls Try.prog 109 #[.pointer (some ⟨g, 0, none⟩), .int .i64 id] w fun e w' => e = .returned (.tuple #[.string (ps.getD i zp).2, .int .i64 0]) ∧ w = w' := by
  obtain ⟨A, c, A', c', rfl, hc1, hc2, rfl, hc3, hc4⟩ := h.shapes
  obtain ⟨qk, ok, rfl, _, hqk, hck, hfk⟩ := row_cells (z := zp) h.rk (by omega)
  have b1 := h.blk.cell 1
  have b2 := h.blk.cell 2
  have bl := h.blk.lt
  have hlook := h.map.run_lookup_ok (t := 78) Try.underlying3 Try.underlying3 Try.underlying78 (wa_zero3 w) hid
  rw [hf] at hlook
  simp only [Option.getD_some, Option.isSome_some] at hlook
  have ki := hck i hi
  unfold kv at ki
  have hil : (i : Int) < (ps.length : Nat) := by omega
  clear h hf hck hfk
  generalize ps.getD i zp = p at *
  obtain ⟨xi, yi⟩ := p
  dsimp only at ki ⊢
  generalize ps.length = n at *
  clear hi
  go_enter Try.func109, Try.ntmps109
  go_wp2
  go_ret2
  exact ⟨rfl, rfl⟩
set_option maxRecDepth 100000 in
theorem turn_none (g b : Nat) (vi vk : Value) (ps : List (Int × ByteArray)) (f : Int → Option Int) (cnt : Nat) (id : Int) (key : ByteArray) (w : World) (B : Nat) (h : St w B g b vi vk ps f cnt) (hid : (Lit.int .i64 id).wf = true) (hf : f id = none) :
    Calls Try.prog 106 #[.pointer (some ⟨g, 0, none⟩), .int .i64 id, .string key] w fun e w' => e = .returned (.int .i64 4) ∧ w = w' := by
  have b2 := h.blk.cell 2
  have bl := h.blk.lt
  have hlook := h.map.run_lookup_ok (t := 78) Try.underlying3 Try.underlying3 Try.underlying78 (wa_zero3 w) hid
  rw [hf] at hlook
  simp only [Option.getD_none, Option.isSome_none] at hlook
  clear h hf
  go_enter Try.func106, Try.ntmps106
  go_wp2
  go_ret
  exact ⟨rfl, rfl⟩
/-- A key, set anew. -/
theorem St.setKey {w : World} {B g b q o c : Nat} {vi : Value} {ps : List (Int × ByteArray)} {f : Int → Option Int} {cnt i : Nat} (h : St w B g b vi (.slice (some ⟨q, o, none⟩) ps.length c) ps f cnt) (hi : i < ps.length) (key : ByteArray) :
    St (w.setCell ⟨q, o + i, none⟩ (.string key)) B g b vi (.slice (some ⟨q, o, none⟩) ps.length c) (ps.set i ((ps.getD i zp).1, key)) f cnt := by
  refine (h.raw.setK hi (.string key)).st (by simp) ?_ ?_
  · rw [List.map_set]
    have : iv ((ps.getD i zp).1, key) = (ps.map iv)[i]'(by simpa using hi) := by rw [List.getElem_map, getD_of hi]; rfl
    rw [this]
    exact List.set_getElem_self _
  · rw [List.map_set]; rfl
theorem set_hole {ps : List (Int × ByteArray)} (h : Heap (bef klt) ps.length (pf ps)) {i : Nat} (hi : i < ps.length) (x : Int × ByteArray) : Hole (bef klt) (ps.set i x).length (pf (ps.set i x)) i := by
  refine Hole.of_heap (bef_ord sord) h (fun k hk _ => by simpa using hk) (fun k hk hne => ?_) (fun _ _ _ _ => hi)
  unfold pf
  simp only [List.getD_eq_getElem?_getD, List.getElem?_set]
  rw [if_neg (Ne.symm hne)]
theorem set_wf {ps : List (Int × ByteArray)} (h : ∀ p ∈ ps, (Lit.int .i64 p.1).wf = true) {i : Nat} (hi : i < ps.length) (k : ByteArray) : ∀ p ∈ ps.set i ((ps.getD i zp).1, k), (Lit.int .i64 p.1).wf = true := fun p hp => by
  rcases List.mem_or_eq_of_mem_set hp with h1 | h1
  · exact h p h1
  · have h2 := h _ (List.getElem_mem hi)
    rw [h1, getD_of hi]; exact h2
def TurnPost (w : World) (B g b : Nat) (vi vk : Value) (qs : List (Int × ByteArray)) (cnt : Nat) (e : Ending) (w' : World) : Prop := e = .returned (.int .i64 0) ∧ GoOk w B g b vi vk qs cnt w'
theorem Mid.go {w0 w1 wr : World} {ps0 ps qs : List (Int × ByteArray)} {B g b : Nat} {vi vk vi0 vk0 : Value} {f : Int → Option Int} {cnt : Nat} (h : Mid w1 ps0 wr B g b vi vk ps f cnt) (hh : Heap (bef klt) ps.length (pf ps)) (hw : ∀ p ∈ ps0, (Lit.int .i64 p.1).wf = true) (hp : ps0.Perm qs)
    (hf : Fr (F g b vi0 vk0) w0 w1) (hF : ∀ k, F g b vi vk k → F g b vi0 vk0 k ∨ w0.heap.size ≤ k) : GoOk w0 B g b vi0 vk0 qs cnt wr :=
  ⟨vi, vk, ps, f, ⟨h.st, h.pos, hh, h.wf hw⟩, h.perm.trans hp, hf.trans h.fr (fun k hk hs => (hF k hs).resolve_right (by omega)), hF⟩
set_option maxHeartbeats 1000000 in
set_option maxRecDepth 100000 in
theorem turn_some (g b : Nat) (vi vk : Value) (ps : List (Int × ByteArray)) (f : Int → Option Int) (cnt : Nat) (id : Int) (i : Nat) (key : ByteArray) (w : World) (B : Nat) (h : Ok w B g b vi vk ps f cnt) (hid : (Lit.int .i64 id).wf = true) (hf : f id = some (i : Int)) (hi : i < ps.length) (hl : ps.length < 4611686018427387904) (hcnt : cnt < maxLen) :
    Calls Try.prog 106 #[.pointer (some ⟨g, 0, none⟩), .int .i64 id, .string key] w (TurnPost w B g b vi vk (ps.set i ((ps.getD i zp).1, key)) cnt) := by
  obtain ⟨A, c, A', c', rfl, hc1, hc2, rfl, hc3, hc4⟩ := h.st.shapes
  obtain ⟨qk, ok, rfl, _, hqk, hck, hfk⟩ := row_cells (z := zp) h.st.rk (by omega)
  have b1 := h.st.blk.cell 1
  have b2 := h.st.blk.cell 2
  have bl := h.st.blk.lt
  have hlook := h.st.map.run_lookup_ok (t := 78) Try.underlying3 Try.underlying3 Try.underlying78 (wa_zero3 w) hid
  rw [hf] at hlook
  simp only [Option.getD_some, Option.isSome_some] at hlook
  have ki := hck i hi
  unfold kv at ki
  have kf := hfk (ok + i)
  have hil : (i : Int) < (ps.length : Nat) := by omega
  have hst := h.st.setKey hi key
  have hfr : Fr (F g b (.slice A ps.length c) (.slice (some ⟨qk, ok, none⟩) ps.length c')) w (w.setCell ⟨qk, ok + i, none⟩ (.string key)) := (Fr.refl _ w).setCell (p := ⟨qk, ok + i, none⟩) (fun _ => .inr (.inr (.inr rfl))) _
  have HFX := Lib.hid (fix100 g b _ _ _ f cnt i _ B hst (by simpa using hi) (h.pos.key hi key) (by simpa using hl) hcnt (set_wf h.wf hi key) (set_hole h.heap hi _))
  have HFIN := Lib.hid (fun w' ps' f' (hM : Mid _ _ w' B g b _ _ ps' f' cnt) hh => Mid.go (qs := ps.set i ((ps.getD i zp).1, key)) hM hh (set_wf h.wf hi key) (List.Perm.refl _) hfr (fun k hk => .inl hk))
  clear h hf hck hfk hst hfr hl
  generalize ps.getD i zp = p at *
  obtain ⟨xi, yi⟩ := p
  dsimp only at ki HFX HFIN ⊢
  generalize ps.length = n at *
  clear hi
  go_enter Try.func106, Try.ntmps106
  go_wp2_with fail
  refine HFX.out.mono ?_
  rintro e w2 ⟨rfl, ps', f', hM, hh⟩
  have HG := Lib.hid (HFIN.out w2 ps' f' hM hh)
  clear hM hh
  go_wp2
  go_ret
  exact ⟨rfl, HG.out⟩
end Go.Proofs.Ytenhcpobncmedaa.HS
