/- Plain law of sockets: what each call answers and leaves is one; the whole state stays well. -/
import Derived.Test.YtmoanemhjcdjkaaSkP
namespace Go.Proofs.Ytmoanemhjcdjkaa
open Go.RowKit
set_option linter.unusedVariables false
set_option linter.unusedSimpArgs false
open Classical in
noncomputable def pick1 (P : Nat → Prop) : Nat := if h : ∃ i, P i then Classical.choose h else 0
theorem pick1_eq {P : Nat → Prop} {i : Nat} (h : P i) (hu : ∀ j, P j → j = i) : pick1 P = i := by
  unfold pick1
  rw [dif_pos ⟨i, h⟩]
  exact hu _ (Classical.choose_spec ⟨i, h⟩)
noncomputable def frS (F : Fs) : Nat := pick1 (freeAt F)
noncomputable def nmS (F : Fs) (port : Int) : Nat := pick1 (namedAt F port)
theorem frS_eq {F : Fs} {i : Nat} (h : freeAt F i) : frS F = i := pick1_eq h (fun j hj => free_one hj h)
theorem nmS_eq {F : Fs} {port : Int} {i : Nat} (h : namedAt F port i) : nmS F port = i := pick1_eq h (fun j hj => named_one hj h)
theorem at1_ok {F : Fs} {j : Nat} {id : Int} {x : Sk} (hj : j < 16) (he : id = (j : Int) + 1) (h : F j = some x) : at1 F id = some x := by rw [he, at1_of hj, h]
theorem toN {j : Nat} {id : Int} (he : id = (j : Int) + 1) : (id - 1).toNat = j := by omega
open Classical in
noncomputable def madeFn (F : Fs) : Int × Int × Fs := if full F then (0, 6, F) else ((frS F : Int) + 1, 0, put F (frS F) (some .zero))
theorem madeR_fn {F F' : Fs} {x y : Int} (h : madeR F x y F') : madeFn F = (x, y, F') := by
  unfold madeFn
  rcases h with ⟨hf, rfl, rfl, rfl⟩ | ⟨i, hf, rfl, rfl, rfl⟩
  · rw [if_pos hf]
  · rw [if_neg (fun e => free_full hf e), frS_eq hf]
open Classical in
noncomputable def nameFn (F : Fs) (id port : Int) : Int × Fs := if port < 1 ∨ 99 < port then (1, F) else match at1 F id with | none => (4, F) | some x => if x.kind ≠ 0 then (8, F) else if noName F port then (0, put F (id - 1).toNat (some { x with kind := 1, port := port })) else (5, F)
theorem NameR.fn {F F' : Fs} {id port x : Int} (h : NameR F id port x F') : nameFn F id port = (x, F') := by
  unfold nameFn
  cases h with
  | arg h => rw [if_pos h]
  | none h h1 => rw [if_neg (by omega), h1]
  | state h h1 h2 => rw [if_neg (by omega), h1]; dsimp only; rw [if_pos h2]
  | there h h1 h2 h3 => rw [if_neg (by omega), h1]; dsimp only; rw [if_neg (fun e => e h2), if_neg (fun e => named_no h3 e)]
  | ok h hj he h1 h2 h3 => rw [if_neg (by omega), at1_ok hj he h1]; dsimp only; rw [if_neg (fun e => e h2), if_pos h3, toN he]
open Classical in
noncomputable def hearFn (F : Fs) (id many : Int) : Int × Fs := if many < 1 ∨ 4 < many then (1, F) else match at1 F id with | none => (4, F) | some x => if x.kind ≠ 1 then (8, F) else (0, put F (id - 1).toNat (some { x with kind := 2, many := many }))
theorem HearR.fn {F F' : Fs} {id many x : Int} (h : HearR F id many x F') : hearFn F id many = (x, F') := by
  unfold hearFn
  cases h with
  | arg h => rw [if_pos h]
  | none h h1 => rw [if_neg (by omega), h1]
  | state h h1 h2 => rw [if_neg (by omega), h1]; dsimp only; rw [if_pos h2]
  | ok h hj he h1 h2 => rw [if_neg (by omega), at1_ok hj he h1]; dsimp only; rw [if_neg (fun e => e h2), toN he]
open Classical in
noncomputable def reachFn (F : Fs) (id port : Int) : Int × Fs :=
  if port < 1 ∨ 99 < port then (1, F) else match at1 F id with
  | none => (4, F)
  | some x => if x.kind ≠ 0 then (8, F) else if noName F port then (10, F) else match F (nmS F port) with
    | none => (0, F)
    | some y => if y.kind ≠ 2 then (10, F) else if (y.q.length : Int) = y.many then (9, F) else if full F then (6, F) else
      (0, put (put (put F (frS F) (some { Sk.zero with kind := 3, port := port, peer := id })) (id - 1).toNat (some { x with kind := 3, port := port, peer := (frS F : Int) + 1 })) (nmS F port) (some { y with q := y.q ++ [(frS F : Int) + 1] }))
theorem ReachR.fn {F F' : Fs} {id port x : Int} (h : ReachR F id port x F') : reachFn F id port = (x, F') := by
  unfold reachFn
  cases h with
  | arg h => rw [if_pos h]
  | none h h1 => rw [if_neg (by omega), h1]
  | state h h1 h2 => rw [if_neg (by omega), h1]; dsimp only; rw [if_pos h2]
  | pipe h h1 h2 h3 => rw [if_neg (by omega), h1]; dsimp only; rw [if_neg (fun e => e h2), if_pos h3]
  | deaf h h1 h2 h3 h4 h5 => rw [if_neg (by omega), h1]; dsimp only; rw [if_neg (fun e => e h2), if_neg (fun e => named_no h3 e), nmS_eq h3, h4]; dsimp only; rw [if_pos h5]
  | wait h h1 h2 h3 h4 h5 h6 => rw [if_neg (by omega), h1]; dsimp only; rw [if_neg (fun e => e h2), if_neg (fun e => named_no h3 e), nmS_eq h3, h4]; dsimp only; rw [if_neg (fun e => e h5), if_pos h6]
  | full h h1 h2 h3 h4 h5 h6 h7 => rw [if_neg (by omega), h1]; dsimp only; rw [if_neg (fun e => e h2), if_neg (fun e => named_no h3 e), nmS_eq h3, h4]; dsimp only; rw [if_neg (fun e => e h5), if_neg h6, if_pos h7]
  | ok h hj he h1 h2 h3 h4 h5 h6 h7 => rw [if_neg (by omega), at1_ok hj he h1]; dsimp only; rw [if_neg (fun e => e h2), if_neg (fun e => named_no h3 e), nmS_eq h3, h4]; dsimp only; rw [if_neg (fun e => e h5), if_neg h6, if_neg (fun e => free_full h7 e), frS_eq h7, toN he]
open Classical in
noncomputable def acceptFn (F : Fs) (id : Int) : Int × Int × Fs := match at1 F id with | none => (0, 4, F) | some x => if x.kind ≠ 2 then (0, 8, F) else match x.q with | [] => (0, 9, F) | n :: r => (n, 0, put F (id - 1).toNat (some { x with q := r }))
theorem AcceptR.fn {F F' : Fs} {id x y : Int} (h : AcceptR F id x y F') : acceptFn F id = (x, y, F') := by
  unfold acceptFn
  cases h with
  | none h1 => rw [h1]
  | state h1 h2 => rw [h1]; dsimp only; rw [if_pos h2]
  | wait h1 h2 h3 => rw [h1]; dsimp only; rw [if_neg (fun e => e h2), h3]
  | ok hj he h1 h2 h3 => rw [at1_ok hj he h1]; dsimp only; rw [if_neg (fun e => e h2), h3, toN he]
open Classical in
noncomputable def writeFn (F : Fs) (id : Int) (xs : List Int) : Int × Int × Fs :=
  if 256 < xs.length then (0, 1, F) else match at1 F id with
  | none => (0, 4, F)
  | some x => if x.kind ≠ 3 ∨ x.shut = true then (0, 8, F) else match at1 F x.peer with
    | none => (0, 10, F)
    | some y => if 0 < xs.length ∧ y.bs.length = 64 then (0, 9, F) else ((min xs.length (64 - y.bs.length) : Nat), 0, put F (x.peer - 1).toNat (some { y with bs := y.bs ++ xs.take (64 - y.bs.length) }))
theorem WriteR.fn {F F' : Fs} {id x y : Int} {xs : List Int} (h : WriteR F id xs x y F') : writeFn F id xs = (x, y, F') := by
  unfold writeFn
  cases h with
  | arg h => rw [if_pos h]
  | none h h1 => rw [if_neg (by omega), h1]
  | state h h1 h2 => rw [if_neg (by omega), h1]; dsimp only; rw [if_pos h2]
  | pipe h h1 h2 h3 h4 => rw [if_neg (by omega), h1]; dsimp only; rw [if_neg (by rw [h2, h3]; simp), h4]
  | wait h h1 h2 h3 h4 h5 h6 => rw [if_neg (by omega), h1]; dsimp only; rw [if_neg (by rw [h2, h3]; simp), h4]; dsimp only; rw [if_pos ⟨h5, h6⟩]
  | ok h h1 h2 h3 hk he h4 h5 => rw [if_neg (by omega), h1]; dsimp only; rw [if_neg (by rw [h2, h3]; simp), at1_ok hk he h4]; dsimp only; rw [if_neg (by omega), toN he]
open Classical in
noncomputable def readFn (F : Fs) (id n : Int) : List Int × Int × Fs :=
  if n < 0 ∨ 256 < n then ([], 1, F) else match at1 F id with
  | none => ([], 4, F)
  | some x => if x.kind ≠ 3 then ([], 8, F) else if 0 < n ∧ x.bs = [] ∧ ∃ y, at1 F x.peer = some y ∧ y.shut = false then ([], 9, F) else (x.bs.take n.toNat, 0, put F (id - 1).toNat (some { x with bs := x.bs.drop n.toNat }))
theorem ReadR.fn {F F' : Fs} {id n y : Int} {xs : List Int} (h : ReadR F id n xs y F') : readFn F id n = (xs, y, F') := by
  unfold readFn
  cases h with
  | arg h => rw [if_pos h]
  | none h h1 => rw [if_neg (by omega), h1]
  | state h h1 h2 => rw [if_neg (by omega), h1]; dsimp only; rw [if_pos h2]
  | wait h h1 h2 h3 h4 h5 h6 => rw [if_neg (by omega), h1]; dsimp only; rw [if_neg (fun e => e h2), if_pos ⟨h3, h4, _, h5, h6⟩]
  | ok h hj he h1 h2 h3 => rw [if_neg (by omega), at1_ok hj he h1]; dsimp only; rw [if_neg (fun e => e h2), if_neg h3, toN he]
open Classical in
noncomputable def shutFn (F : Fs) (id : Int) : Int × Fs := match at1 F id with | none => (4, F) | some x => if x.kind ≠ 3 ∨ x.shut = true then (8, F) else (0, put F (id - 1).toNat (some { x with shut := true }))
theorem ShutR.fn {F F' : Fs} {id x : Int} (h : ShutR F id x F') : shutFn F id = (x, F') := by
  unfold shutFn
  cases h with
  | none h1 => rw [h1]
  | state h1 h2 => rw [h1]; dsimp only; rw [if_pos h2]
  | ok hj he h1 h2 h3 => rw [at1_ok hj he h1]; dsimp only; rw [if_neg (by rw [h2, h3]; simp), toN he]
noncomputable def dropFn (F : Fs) (id : Int) : Int × Fs := match at1 F id with | none => (4, F) | some x => (0, dropF F (id :: x.q))
theorem DropR.fn {F F' : Fs} {id x : Int} (h : DropR F id x F') : dropFn F id = (x, F') := by
  unfold dropFn
  cases h with
  | none h1 => rw [h1]
  | ok h1 => rw [h1]
def tellFn (F : Fs) (id : Int) : Int × Int × Int × Int := match at1 F id with | none => (0, 0, 0, 4) | some x => (x.kind, x.port, (x.q.length : Int) + x.bs.length, 0)
theorem TellR.fn {F : Fs} {id a b c d : Int} (h : TellR F id a b c d) : tellFn F id = (a, b, c, d) := by
  unfold tellFn
  cases h with
  | none h1 => rw [h1]
  | ok h1 => rw [h1]
theorem two_eq {α β : Type} {p : α × β} {a a' : α} {b b' : β} (h : p = (a, b)) (h' : p = (a', b')) : a = a' ∧ b = b' := by
  rw [h] at h'
  exact ⟨congrArg Prod.fst h', congrArg Prod.snd h'⟩
theorem three_eq {α β γ : Type} {p : α × β × γ} {a a' : α} {b b' : β} {c c' : γ} (h : p = (a, b, c)) (h' : p = (a', b', c')) : a = a' ∧ b = b' ∧ c = c' := by
  rw [h] at h'
  exact ⟨congrArg Prod.fst h', congrArg (fun p => p.2.1) h', congrArg (fun p => p.2.2) h'⟩
theorem four_eq {α β γ δ : Type} {p : α × β × γ × δ} {a a' : α} {b b' : β} {c c' : γ} {d d' : δ} (h : p = (a, b, c, d)) (h' : p = (a', b', c', d')) : a = a' ∧ b = b' ∧ c = c' ∧ d = d' := by
  rw [h] at h'
  exact ⟨congrArg Prod.fst h', congrArg (fun p => p.2.1) h', congrArg (fun p => p.2.2.1) h', congrArg (fun p => p.2.2.2) h'⟩
/-- One socket turns. -/
theorem Inv.turn {F : Fs} (h : Inv F) {i : Nat} {x x' : Sk} (hi : i < 16) (hx : F i = some x) (hp : x'.peer = x.peer) (h3 : x.kind = 3 → x'.kind = 3) (h2 : x.kind = 2 → x'.kind = 2) (hs : ∀ k, k ∈ x'.q → k ∈ x.q) (hnd : x'.q.Nodup) : Inv (put F i (some x')) := by
  have look : ∀ {j : Nat} {y : Sk}, F j = some y → y.kind = 3 → ∃ y', put F i (some x') j = some y' ∧ y'.kind = 3 ∧ y'.peer = y.peer := fun {j y} hy hk => by
    by_cases e : j = i
    · subst e
      rw [hx] at hy
      injection hy with hy
      subst hy
      exact ⟨x', put_same F j _, h3 hk, hp⟩
    · exact ⟨y, by rw [put_other F e]; exact hy, hk, rfl⟩
  refine ⟨fun j hj => ?_, fun j z hj hz h0 => ?_, fun j z k hj hz hk => ?_, fun j z hj hz => ?_, fun j j' z z' k hj hj' hz hz' hne hk => ?_⟩
  · rw [put_other F (by omega)]; exact h.out j hj
  · by_cases e : j = i
    · subst e
      rw [put_same] at hz
      injection hz with hz
      subst hz
      rw [hp] at h0 ⊢
      obtain ⟨a1, jj, y, a2, a3, a4, a5, a6, a7⟩ := h.peer j x hj hx h0
      exact ⟨h3 a1, jj, y, a2, a3, a4, by rw [put_other F a3]; exact a5, a6, a7⟩
    · rw [put_other F e] at hz
      obtain ⟨a1, jj, y, a2, a3, a4, a5, a6, a7⟩ := h.peer j z hj hz h0
      obtain ⟨y', b1, b2, b3⟩ := look a5 a6
      exact ⟨a1, jj, y', a2, a3, a4, b1, b2, b3.trans a7⟩
  · by_cases e : j = i
    · subst e
      rw [put_same] at hz
      injection hz with hz
      subst hz
      obtain ⟨a1, jj, y, a2, a3, a4, a5⟩ := h.queue j x k hj hx (hs k hk)
      obtain ⟨y', b1, b2, b3⟩ := look a4 a5
      exact ⟨h2 a1, jj, y', a2, a3, b1, b2⟩
    · rw [put_other F e] at hz
      obtain ⟨a1, jj, y, a2, a3, a4, a5⟩ := h.queue j z k hj hz hk
      obtain ⟨y', b1, b2, b3⟩ := look a4 a5
      exact ⟨a1, jj, y', a2, a3, b1, b2⟩
  · by_cases e : j = i
    · subst e
      rw [put_same] at hz
      injection hz with hz
      subst hz
      exact hnd
    · rw [put_other F e] at hz
      exact h.nodup j z hj hz
  · have hk0 : ∃ y, F j = some y ∧ k ∈ y.q := by
      by_cases e : j = i
      · subst e
        rw [put_same] at hz
        injection hz with hz
        subst hz
        exact ⟨x, hx, hs k hk⟩
      · rw [put_other F e] at hz
        exact ⟨z, hz, hk⟩
    obtain ⟨y, hy, hky⟩ := hk0
    intro hk'
    by_cases e : j' = i
    · subst e
      rw [put_same] at hz'
      injection hz' with hz'
      subst hz'
      exact h.apart j j' y x k hj hj' hy hx hne hky (hs k hk')
    · rw [put_other F e] at hz'
      exact h.apart j j' y z' k hj hj' hy hz' hne hky hk'
/-- A new one. -/
theorem Inv.fill {F : Fs} (h : Inv F) {i : Nat} (hi : i < 16) (hx : F i = none) : Inv (put F i (some .zero)) := by
  have look : ∀ {j : Nat} {y : Sk}, F j = some y → put F i (some .zero) j = some y := fun {j y} hy => by
    have e : j ≠ i := fun e => by rw [e, hx] at hy; cases hy
    rw [put_other F e]; exact hy
  refine ⟨fun j hj => ?_, fun j z hj hz h0 => ?_, fun j z k hj hz hk => ?_, fun j z hj hz => ?_, fun j j' z z' k hj hj' hz hz' hne hk => ?_⟩
  · rw [put_other F (by omega)]; exact h.out j hj
  · by_cases e : j = i
    · subst e
      rw [put_same] at hz
      injection hz with hz
      subst hz
      exact absurd rfl h0
    · rw [put_other F e] at hz
      obtain ⟨a1, jj, y, a2, a3, a4, a5, a6, a7⟩ := h.peer j z hj hz h0
      exact ⟨a1, jj, y, a2, a3, a4, look a5, a6, a7⟩
  · by_cases e : j = i
    · subst e
      rw [put_same] at hz
      injection hz with hz
      subst hz
      simp [Sk.zero] at hk
    · rw [put_other F e] at hz
      obtain ⟨a1, jj, y, a2, a3, a4, a5⟩ := h.queue j z k hj hz hk
      exact ⟨a1, jj, y, a2, a3, look a4, a5⟩
  · by_cases e : j = i
    · subst e
      rw [put_same] at hz
      injection hz with hz
      subst hz
      simp [Sk.zero]
    · rw [put_other F e] at hz
      exact h.nodup j z hj hz
  · intro hk'
    by_cases e : j = i
    · subst e
      rw [put_same] at hz
      injection hz with hz
      subst hz
      simp [Sk.zero] at hk
    · rw [put_other F e] at hz
      by_cases e' : j' = i
      · subst e'
        rw [put_same] at hz'
        injection hz' with hz'
        subst hz'
        simp [Sk.zero] at hk'
      · rw [put_other F e'] at hz'
        exact h.apart j j' z z' k hj hj' hz hz' hne hk hk'
/-- Some go. -/
theorem Inv.drop {F : Fs} (h : Inv F) (L : List Int) : Inv (dropF F L) := by
  have get : ∀ {j : Nat} {z : Sk}, dropF F L j = some z → ((j : Int) + 1) ∉ L ∧ ∃ y, F j = some y ∧ z = { y with q := y.q.filter (fun k => decide (k ∉ L)), peer := if y.peer ∈ L then 0 else y.peer } := fun {j z} hz => by
    unfold dropF at hz
    obtain ⟨e, y, hy, rfl⟩ := cutL_some hz
    unfold flt at hy
    cases hF : F j with
    | none => rw [hF] at hy; cases hy
    | some y0 =>
      rw [hF] at hy
      injection hy with hy
      subst hy
      exact ⟨e, y0, rfl, rfl⟩
  have live : ∀ {j : Nat} {y : Sk}, F j = some y → ((j : Int) + 1) ∉ L → dropF F L j = some { y with q := y.q.filter (fun k => decide (k ∉ L)), peer := if y.peer ∈ L then 0 else y.peer } := fun {j y} hy e => by
    unfold dropF
    have : flt F L j = some { y with q := y.q.filter (fun k => decide (k ∉ L)) } := by unfold flt; rw [hy]; rfl
    rw [cutL_live this e]
  refine ⟨fun j hj => ?_, fun j z hj hz h0 => ?_, fun j z k hj hz hk => ?_, fun j z hj hz => ?_, fun j j' z z' k hj hj' hz hz' hne hk => ?_⟩
  · unfold dropF cutL flt
    rw [h.out j hj]
    split <;> rfl
  · obtain ⟨e, y, hy, rfl⟩ := get hz
    dsimp only at h0 ⊢
    by_cases e2 : y.peer ∈ L
    · rw [if_pos e2] at h0; exact absurd rfl h0
    · rw [if_neg e2] at h0 ⊢
      obtain ⟨a1, jj, u, a2, a3, a4, a5, a6, a7⟩ := h.peer j y hj hy h0
      refine ⟨a1, jj, _, a2, a3, a4, live a5 (by rw [← a4]; exact e2), a6, ?_⟩
      dsimp only
      rw [a7, if_neg e]
  · obtain ⟨e, y, hy, rfl⟩ := get hz
    dsimp only at hk ⊢
    obtain ⟨hk1, hk2⟩ := List.mem_filter.1 hk
    obtain ⟨a1, jj, u, a2, a3, a4, a5⟩ := h.queue j y k hj hy hk1
    refine ⟨a1, jj, _, a2, a3, live a4 (by rw [← a3]; simpa using hk2), a5⟩
  · obtain ⟨e, y, hy, rfl⟩ := get hz
    exact (h.nodup j y hj hy).filter _
  · obtain ⟨e, y, hy, rfl⟩ := get hz
    obtain ⟨e', y', hy', rfl⟩ := get hz'
    dsimp only at hk ⊢
    exact fun hk' => h.apart j j' y y' k hj hj' hy hy' hne (List.mem_filter.1 hk).1 (List.mem_filter.1 hk').1
/-- Two are joined, and one of them waits. -/
theorem Inv.reach {F : Fs} (h : Inv F) {i j k : Nat} {x y : Sk} {port : Int} (hi : i < 16) (hj : j < 16) (hk : k < 16) (hF : F i = none) (hx : F j = some x) (hx0 : x.kind = 0) (hy : F k = some y) (hy2 : y.kind = 2) :
    Inv (put (put (put F i (some { Sk.zero with kind := 3, port := port, peer := (j : Int) + 1 })) j (some { x with kind := 3, port := port, peer := (i : Int) + 1 })) k (some { y with q := y.q ++ [(i : Int) + 1] })) := by
  have hji : j ≠ i := fun e => by rw [e, hF] at hx; cases hx
  have hki : k ≠ i := fun e => by rw [e, hF] at hy; cases hy
  have hjk : j ≠ k := fun e => by rw [e, hy] at hx; injection hx with hx; subst hx; omega
  have hxp : x.peer = 0 := by
    by_cases e : x.peer = 0
    · exact e
    · have := (h.peer j x hj hx e).1; omega
  have hyp : y.peer = 0 := by
    by_cases e : y.peer = 0
    · exact e
    · have := (h.peer k y hk hy e).1; omega
  have hxq : ∀ n, n ∉ x.q := fun n e => by have := (h.queue j x n hj hx e).1; omega
  have hnew : ∀ a z, a < 16 → F a = some z → ((i : Int) + 1) ∉ z.q := fun a z ha hz e => by
    obtain ⟨_, jj, u, _, e2, e3, _⟩ := h.queue a z _ ha hz e
    have : jj = i := by omega
    subst this
    rw [hF] at e3; cases e3
  generalize hG : put (put (put F i (some { Sk.zero with kind := 3, port := port, peer := (j : Int) + 1 })) j (some { x with kind := 3, port := port, peer := (i : Int) + 1 })) k (some { y with q := y.q ++ [(i : Int) + 1] }) = G
  have gk : G k = some { y with q := y.q ++ [(i : Int) + 1] } := by rw [← hG, put_same]
  have gj : G j = some { x with kind := 3, port := port, peer := (i : Int) + 1 } := by rw [← hG, put_other _ hjk, put_same]
  have gi : G i = some { Sk.zero with kind := 3, port := port, peer := (j : Int) + 1 } := by rw [← hG, put_other _ (Ne.symm hki), put_other _ (Ne.symm hji), put_same]
  have go : ∀ a, a ≠ i → a ≠ j → a ≠ k → G a = F a := fun a e1 e2 e3 => by rw [← hG, put_other _ e3, put_other _ e2, put_other _ e1]
  have look : ∀ {a : Nat} {z : Sk}, F a = some z → z.kind = 3 → G a = some z := fun {a z} hz h3 => by
    rw [go a (fun e => by rw [e, hF] at hz; cases hz) (fun e => by rw [e, hx] at hz; injection hz with hz; subst hz; omega) (fun e => by rw [e, hy] at hz; injection hz with hz; subst hz; omega)]
    exact hz
  clear hG
  refine ⟨fun a ha => ?_, fun a z ha hz h0 => ?_, fun a z n ha hz hn => ?_, fun a z ha hz => ?_, fun a a' z z' n ha ha' hz hz' hne hn => ?_⟩
  · rw [go a (by omega) (by omega) (by omega)]; exact h.out a ha
  · by_cases e1 : a = i
    · subst e1
      rw [gi] at hz
      injection hz with hz
      subst hz
      exact ⟨rfl, j, _, hj, hji, rfl, gj, rfl, rfl⟩
    · by_cases e2 : a = j
      · subst e2
        rw [gj] at hz
        injection hz with hz
        subst hz
        exact ⟨rfl, i, _, hi, Ne.symm hji, rfl, gi, rfl, rfl⟩
      · by_cases e3 : a = k
        · subst e3
          rw [gk] at hz
          injection hz with hz
          subst hz
          exact absurd hyp h0
        · rw [go a e1 e2 e3] at hz
          obtain ⟨a1, jj, u, a2, a3, a4, a5, a6, a7⟩ := h.peer a z ha hz h0
          exact ⟨a1, jj, u, a2, a3, a4, look a5 a6, a6, a7⟩
  · by_cases e1 : a = i
    · subst e1
      rw [gi] at hz
      injection hz with hz
      subst hz
      simp [Sk.zero] at hn
    · by_cases e2 : a = j
      · subst e2
        rw [gj] at hz
        injection hz with hz
        subst hz
        exact absurd hn (hxq n)
      · by_cases e3 : a = k
        · subst e3
          rw [gk] at hz
          injection hz with hz
          subst hz
          dsimp only at hn ⊢
          rcases List.mem_append.1 hn with e | e
          · obtain ⟨a1, jj, u, a2, a3, a4, a5⟩ := h.queue a y n ha hy e
            exact ⟨a1, jj, u, a2, a3, look a4 a5, a5⟩
          · have e : n = (i : Int) + 1 := by simpa using e
            exact ⟨hy2, i, _, hi, e, gi, rfl⟩
        · rw [go a e1 e2 e3] at hz
          obtain ⟨a1, jj, u, a2, a3, a4, a5⟩ := h.queue a z n ha hz hn
          exact ⟨a1, jj, u, a2, a3, look a4 a5, a5⟩
  · by_cases e1 : a = i
    · subst e1
      rw [gi] at hz
      injection hz with hz
      subst hz
      simp [Sk.zero]
    · by_cases e2 : a = j
      · subst e2
        rw [gj] at hz
        injection hz with hz
        subst hz
        exact h.nodup a x ha hx
      · by_cases e3 : a = k
        · subst e3
          rw [gk] at hz
          injection hz with hz
          subst hz
          dsimp only
          rw [List.nodup_append]
          refine ⟨h.nodup a y ha hy, by simp, fun u hu v hv e => ?_⟩
          have hv : v = (i : Int) + 1 := by simpa using hv
          subst hv
          subst e
          exact hnew a y ha hy hu
        · rw [go a e1 e2 e3] at hz
          exact h.nodup a z ha hz
  · -- what a queue may hold
    have key : ∀ {a : Nat} {z : Sk}, a < 16 → G a = some z → n ∈ z.q → (∃ z0, F a = some z0 ∧ n ∈ z0.q) ∨ (a = k ∧ n = (i : Int) + 1) := fun {a z} ha hz hn => by
      by_cases e1 : a = i
      · subst e1
        rw [gi] at hz
        injection hz with hz
        subst hz
        simp [Sk.zero] at hn
      · by_cases e2 : a = j
        · subst e2
          rw [gj] at hz
          injection hz with hz
          subst hz
          exact absurd hn (hxq n)
        · by_cases e3 : a = k
          · subst e3
            rw [gk] at hz
            injection hz with hz
            subst hz
            dsimp only at hn
            rcases List.mem_append.1 hn with e | e
            · exact .inl ⟨y, hy, e⟩
            · exact .inr ⟨rfl, by simpa using e⟩
          · rw [go a e1 e2 e3] at hz
            exact .inl ⟨z, hz, hn⟩
    intro hn'
    rcases key ha hz hn with ⟨z0, q1, q2⟩ | ⟨q1, q2⟩
    · rcases key ha' hz' hn' with ⟨z1, r1, r2⟩ | ⟨r1, r2⟩
      · exact h.apart a a' z0 z1 n ha ha' q1 r1 hne q2 r2
      · rw [r2] at q2; exact hnew a z0 ha q1 q2
    · rcases key ha' hz' hn' with ⟨z1, r1, r2⟩ | ⟨r1, r2⟩
      · rw [q2] at r2; exact hnew a' z1 ha' r1 r2
      · exact hne (q1.trans r1.symm)
/-- Each call leaves the state well. -/
theorem Inv.made {F F' : Fs} {x y : Int} (h : Inv F) (hr : madeR F x y F') : Inv F' := by
  rcases hr with ⟨_, _, _, rfl⟩ | ⟨i, hf, _, _, rfl⟩
  · exact h
  · exact h.fill hf.1 hf.2.1
theorem Inv.nme {F F' : Fs} {id port x : Int} (h : Inv F) (hr : NameR F id port x F') : Inv F' := by
  cases hr with
  | ok _ hj he h1 h2 h3 => exact h.turn hj h1 rfl (fun e => by omega) (fun e => by omega) (fun k hk => hk) (by have := h.nodup _ _ hj h1; exact this)
  | _ => exact h
theorem Inv.hear {F F' : Fs} {id many x : Int} (h : Inv F) (hr : HearR F id many x F') : Inv F' := by
  cases hr with
  | ok _ hj he h1 h2 => exact h.turn hj h1 rfl (fun e => by omega) (fun e => by omega) (fun k hk => hk) (by have := h.nodup _ _ hj h1; exact this)
  | _ => exact h
theorem Inv.rch {F F' : Fs} {id port x : Int} (h : Inv F) (hr : ReachR F id port x F') : Inv F' := by
  cases hr with
  | ok _ hj he h1 h2 h3 h4 h5 h6 h7 => subst he; exact h.reach h7.1 hj h3.1 h7.2.1 h1 h2 h4 h5
  | _ => exact h
theorem Inv.accept {F F' : Fs} {id x y : Int} (h : Inv F) (hr : AcceptR F id x y F') : Inv F' := by
  cases hr with
  | ok hj he h1 h2 h3 =>
    have hn := h.nodup _ _ hj h1
    rw [h3] at hn
    exact h.turn hj h1 rfl (fun e => e) (fun e => e) (fun k hk => by rw [h3]; exact List.mem_cons_of_mem _ hk) (List.nodup_cons.1 hn).2
  | _ => exact h
theorem Inv.write {F F' : Fs} {id x y : Int} {xs : List Int} (h : Inv F) (hr : WriteR F id xs x y F') : Inv F' := by
  cases hr with
  | ok _ h1 h2 h3 hk he h4 h5 => exact h.turn hk h4 rfl (fun e => e) (fun e => e) (fun k hk => hk) (by have := h.nodup _ _ hk h4; exact this)
  | _ => exact h
theorem Inv.read {F F' : Fs} {id n y : Int} {xs : List Int} (h : Inv F) (hr : ReadR F id n xs y F') : Inv F' := by
  cases hr with
  | ok _ hj he h1 h2 h3 => exact h.turn hj h1 rfl (fun e => e) (fun e => e) (fun k hk => hk) (by have := h.nodup _ _ hj h1; exact this)
  | _ => exact h
theorem Inv.shut {F F' : Fs} {id x : Int} (h : Inv F) (hr : ShutR F id x F') : Inv F' := by
  cases hr with
  | ok hj he h1 h2 h3 => exact h.turn hj h1 rfl (fun e => e) (fun e => e) (fun k hk => hk) (by have := h.nodup _ _ hj h1; exact this)
  | _ => exact h
theorem Inv.drp {F F' : Fs} {id x : Int} (h : Inv F) (hr : DropR F id x F') : Inv F' := by
  cases hr with
  | ok h1 => exact h.drop _
  | _ => exact h
end Go.Proofs.Ytmoanemhjcdjkaa
