/- Files read as images, plain. -/
import Derived.Test.YtdgjcjhdclihpaaDoorLdP
import Derived.Test.YtdgjcjhdclihpaaDoorLdG
namespace Go.Proofs.YtdgjcjhdclihpaaDoor
open Go.RowKit
set_option maxHeartbeats 400000
set_option linter.unusedVariables false
set_option linter.unusedSimpArgs false
/-- The page that bytes begin with, and what is behind it. -/
def pgOf (b : List Int) : Option (Key × List Int) :=
  if b.length < 3 ∨ (b.length : Int) - 3 < b.getD 2 0 then none else some ((b.getD 0 0, b.getD 1 0, (b.drop 3).take (b.getD 2 0).toNat), b.drop (3 + (b.getD 2 0).toNat))
def pgsGo : Nat → List Int → Option (List Key)
  | 0, _ => some []
  | m + 1, b => match pgOf b with
    | none => none
    | some (k, r) => (pgsGo m r).map (k :: ·)
def wordS (b : List Int) : Int := b.getD 0 0 + 256 * b.getD 1 0 + 65536 * b.getD 2 0 + 16777216 * b.getD 3 0
theorem wordS_rng {b : List Int} (h : Byt b) : 0 ≤ wordS b ∧ wordS b < 4294967296 := by
  have key : ∀ k, 0 ≤ b.getD k 0 ∧ b.getD k 0 < 256 := fun k => by
    by_cases hk : k < b.length
    · have : b.getD k 0 = b[k] := by simp [List.getD, List.getElem?_eq_getElem hk]
      rw [this]; exact h _ (List.getElem_mem hk)
    · have : b.getD k 0 = 0 := by simp [List.getD, List.getElem?_eq_none (by omega : b.length ≤ k)]
      rw [this]; omega
  have h0 := key 0; have h1 := key 1; have h2 := key 2; have h3 := key 3
  unfold wordS; omega
theorem wordS_four {s : Int} (h0 : 0 ≤ s) (h1 : s < 4294967296) : wordS (four s) = s := by
  unfold wordS four
  simp only [List.getD_cons_zero, List.getD_cons_succ]
  omega
def restS (xs : List Int) : List Int := (xs.drop 8).take (xs.length - 12)
def entryS (xs : List Int) : Int := wordS (xs.drop 4)
/-- Pages that say ks. -/
def pgs (ks : List Key) : List Pg := ks.map fun k => ⟨k.1, k.2.1, none, k.2.2.length, 0, k.2.2⟩
theorem pgs_key (ks : List Key) : (pgs ks).map Pg.key = ks := by
  unfold pgs
  rw [List.map_map]
  exact List.map_id' ks
theorem okPg_keys {gs gs' : List Pg} (h : gs.map Pg.key = gs'.map Pg.key) (hn : ∀ g ∈ gs, g.xs.length = g.n) (hn' : ∀ g ∈ gs', g.xs.length = g.n) {k : Nat} (hk : k < gs.length) : okPg gs k ↔ okPg gs' k := by
  have hl : gs.length = gs'.length := by have := congrArg List.length h; simpa using this
  obtain ⟨e1, e2, e3⟩ := keys_at h hk
  have m1 : gs.getD k Pg.zero ∈ gs := by
    have : gs.getD k Pg.zero = gs[k] := by simp [List.getD, List.getElem?_eq_getElem hk]
    rw [this]; exact List.getElem_mem hk
  have m2 : gs'.getD k Pg.zero ∈ gs' := by
    have : gs'.getD k Pg.zero = gs'[k]'(by omega) := by simp [List.getD, List.getElem?_eq_getElem (by omega : k < gs'.length)]
    rw [this]; exact List.getElem_mem _
  have e4 : (gs'.getD k Pg.zero).n = (gs.getD k Pg.zero).n := by rw [← hn _ m1, ← hn' _ m2, e3]
  have e5 : lastP gs' k = lastP gs k := by
    unfold lastP
    by_cases h0 : k = 0
    · rw [if_pos h0, if_pos h0]
    · rw [if_neg h0, if_neg h0]
      exact (keys_at h (show k - 1 < gs.length by omega)).1
  unfold okPg pgOk
  rw [e1, e2, e4, e5]
theorem stp_keys {e : Int} {gs gs' : List Pg} (h : gs.map Pg.key = gs'.map Pg.key) (k : Nat) : stp e gs k = stp e gs' k := by
  have key : ∀ g : Pg, goesP e g = (fun x : Key => decide (4 ≤ x.2.1 ∧ e / 16 = x.1)) g.key := fun g => rfl
  have h2 : ∀ l : List Pg, (l.take k).any (goesP e) = ((l.map Pg.key).take k).any (fun x : Key => decide (4 ≤ x.2.1 ∧ e / 16 = x.1)) := fun l => by
    rw [← List.map_take, List.any_map]
    rfl
  unfold stp
  rw [h2, h2, h]
theorem ErrIs.keys {e x : Int} {gs gs' : List Pg} (hx : ErrIs e gs x) (h : gs.map Pg.key = gs'.map Pg.key) (hn : ∀ g ∈ gs, g.xs.length = g.n) (hn' : ∀ g ∈ gs', g.xs.length = g.n) : ErrIs e gs' x := by
  have hl : gs.length = gs'.length := by have := congrArg List.length h; simpa using this
  unfold ErrIs at hx ⊢
  rw [← hl, ← stp_keys h]
  rcases hx with h1 | ⟨h1, h2, h3⟩ | ⟨h1, h2, h3⟩
  · exact .inl h1
  · refine .inr (.inl ⟨h1, ?_, h3⟩)
    rcases h2 with ⟨k, hk, hk2⟩ | ⟨h2, h4⟩
    · exact .inl ⟨k, hk, fun hh => hk2 ((okPg_keys h hn hn' hk).2 hh)⟩
    · exact .inr ⟨fun k hk => (okPg_keys h hn hn' hk).1 (h2 k hk), h4⟩
  · exact .inr (.inr ⟨h1, fun k hk => (okPg_keys h hn hn' hk).1 (h2 k hk), h3⟩)
theorem keyT_keys {gs gs' : List Pg} (h : gs.map Pg.key = gs'.map Pg.key) : gs.map Pg.keyT = gs'.map Pg.keyT := by
  have h2 : ∀ l : List Pg, l.map Pg.keyT = (l.map Pg.key).map (fun k : Key => ((k.1, k.2.1, trim k.2.2) : Key)) := fun l => by rw [List.map_map]; rfl
  rw [h2, h2, h]
theorem FileIs.keys {e er : Int} {gs gs' : List Pg} {bs : List Int} (hf : FileIs e gs bs er) (h : gs.map Pg.key = gs'.map Pg.key) (hn : ∀ g ∈ gs, g.xs.length = g.n) (hn' : ∀ g ∈ gs', g.xs.length = g.n) : FileIs e gs' bs er := by
  obtain ⟨x, hx, hf⟩ := hf
  refine ⟨x, hx.keys h hn hn', ?_⟩
  rw [← keyT_keys h]
  exact hf
theorem pgs_n (ks : List Key) : ∀ g ∈ pgs ks, g.xs.length = g.n := fun g hg => by
  unfold pgs at hg
  obtain ⟨k, _, rfl⟩ := List.mem_map.1 hg
  rfl
/-- What is a file. -/
def Good (xs : List Int) : Prop := 12 ≤ xs.length ∧ xs.length ≤ 512 ∧ ∃ ks, pgsGo (xs.getD 3 0).toNat (restS xs) = some ks ∧ FileIs (entryS xs) (pgs ks) xs 0
def ImgIs (xs : List Int) (e : Int) (ks : List Key) (er : Int) : Prop :=
  (Good xs ∧ e = entryS xs ∧ pgsGo (xs.getD 3 0).toNat (restS xs) = some ks ∧ er = 0) ∨ (¬ Good xs ∧ e = 0 ∧ ks = [] ∧ er = 3)
theorem ImgIs.unique {xs : List Int} {e e' er er' : Int} {ks ks' : List Key} (h : ImgIs xs e ks er) (h' : ImgIs xs e' ks' er') : e = e' ∧ ks = ks' ∧ er = er' := by
  rcases h with ⟨g, rfl, h2, rfl⟩ | ⟨g, rfl, rfl, rfl⟩ <;> rcases h' with ⟨g', rfl, h2', rfl⟩ | ⟨g', rfl, rfl, rfl⟩
  · rw [h2] at h2'
    injection h2' with h2'
    exact ⟨rfl, h2', rfl⟩
  · exact absurd g g'
  · exact absurd g' g
  · exact ⟨rfl, rfl, rfl⟩
theorem good_file {xs : List Int} (h : Good xs) : ∃ body, xs = body ++ four (sumS body) ∧ body.take 3 = [82, 72, 49] ∧ 3 ≤ body.length := by
  obtain ⟨_, _, ks, _, x, hx, h⟩ := h
  rcases h with ⟨h1, _, h2⟩ | ⟨_, _, _, h2⟩ | ⟨_, _, h2, _⟩
  · exact absurd h2.symm h1
  · omega
  · exact ⟨_, h2, by simp [bodyS, headS], by simp [bodyS, headS]⟩
theorem good_sign {xs : List Int} (h : Good xs) : xs.take 3 = [82, 72, 49] ∧ wordS (xs.drop (xs.length - 4)) = sumS (xs.take (xs.length - 4)) := by
  obtain ⟨body, rfl, h1, h2⟩ := good_file h
  have hl : (body ++ four (sumS body)).length - 4 = body.length := by rw [List.length_append]; show body.length + 4 - 4 = _; omega
  have hr := sumS_rng body
  rw [hl, List.drop_left, List.take_left, wordS_four hr.1 hr.2, List.take_append_of_le_length h2, h1]
  exact ⟨rfl, rfl⟩
/-- One page more. -/
theorem pgsGo_step {m : Nat} {b r : List Int} {k : Key} (h : pgOf b = some (k, r)) : pgsGo (m + 1) b = (pgsGo m r).map (k :: ·) := by rw [pgsGo, h]
theorem pgsGo_none {m : Nat} {b : List Int} (h : pgOf b = none) : pgsGo (m + 1) b = none := by rw [pgsGo, h]
theorem map_snoc {o : Option (List Key)} {l : List Key} {k : Key} : (o.map (k :: ·)).map (l ++ ·) = o.map ((l ++ [k]) ++ ·) := by
  cases o <;> simp
theorem pgOf_bad {b : List Int} (h : b.length < 3 ∨ (b.length : Int) - 3 < b.getD 2 0) : pgOf b = none := by unfold pgOf; rw [if_pos h]
theorem pgOf_some {b : List Int} (h : ¬ (b.length < 3 ∨ (b.length : Int) - 3 < b.getD 2 0)) : pgOf b = some ((b.getD 0 0, b.getD 1 0, (b.drop 3).take (b.getD 2 0).toNat), b.drop (3 + (b.getD 2 0).toNat)) := by unfold pgOf; rw [if_neg h]
def ImgPost (xs : List Int) (w : World) (er : Ending) (w' : World) : Prop :=
  ∃ e A n c gs x, er = .returned (.tuple #[.agg #[.int .u32 e, .slice A n c], .int .i64 x]) ∧ ImgIs xs e (gs.map Pg.key) x ∧ RP w' w'.heap.size A n gs ∧ n ≤ 9223372036854775807 ∧ Below w.heap.size w w'
theorem ImgPost.bad {xs : List Int} {w w' : World} (h : ¬ Good xs) (hb : Below w.heap.size w w') : ImgPost xs w (.returned (.tuple #[.agg #[.int .u32 0, .slice none 0 0], .int .i64 3])) w' :=
  ⟨0, none, 0, 0, [], 3, rfl, .inr ⟨h, rfl, rfl, rfl⟩, ⟨Reads.none_, rfl, fun g hg => by cases hg⟩, by decide, hb⟩
end Go.Proofs.YtdgjcjhdclihpaaDoor
