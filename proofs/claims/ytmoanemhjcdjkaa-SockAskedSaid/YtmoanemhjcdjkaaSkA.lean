/- Plain law of sockets: sixteen slots; what each call answers and leaves. -/
import Derived.Test.YtmoanemhjcdjkaaMem
namespace Go.Proofs.Ytmoanemhjcdjkaa
open Go.RowKit
set_option linter.unusedVariables false
set_option linter.unusedSimpArgs false
/-- A socket. -/
structure Sk where
  kind : Int
  port : Int
  many : Int
  q : List Int
  peer : Int
  bs : List Int
  shut : Bool
def Sk.zero : Sk := ⟨0, 0, 0, [], 0, [], false⟩
/-- The slots 0 to 15. -/
abbrev Fs := Nat → Option Sk
def put (F : Fs) (i : Nat) (x : Option Sk) : Fs := fun j => if j = i then x else F j
theorem put_same (F : Fs) (i : Nat) (x : Option Sk) : put F i x i = x := by simp [put]
theorem put_other (F : Fs) {i j : Nat} (h : j ≠ i) (x : Option Sk) : put F i x j = F j := by simp [put, h]
theorem put_self {F : Fs} {i : Nat} {x : Option Sk} (h : F i = x) : put F i x = F := by
  funext j
  by_cases e : j = i
  · subst e; rw [put_same, h]
  · rw [put_other F e]
/-- What a socket may be. -/
def Sk.ok (p : Sk) : Prop := 0 ≤ p.kind ∧ p.kind ≤ 3 ∧ 0 ≤ p.port ∧ p.port ≤ 99 ∧ 0 ≤ p.many ∧ p.many ≤ 4 ∧ (p.q.length : Int) ≤ p.many ∧ 0 ≤ p.peer ∧ p.peer ≤ 16 ∧ p.bs.length ≤ 64 ∧ Byt p.bs
/-- The slot of a number. -/
def at1 (F : Fs) (id : Int) : Option Sk := if 1 ≤ id ∧ id ≤ 16 then F (id - 1).toNat else none
theorem at1_some {F : Fs} {id : Int} {p : Sk} (h : at1 F id = some p) : ∃ i : Nat, i < 16 ∧ id = i + 1 ∧ F i = some p := by
  unfold at1 at h
  split at h
  · exact ⟨(id - 1).toNat, by omega, by omega, h⟩
  · cases h
theorem at1_of {F : Fs} {i : Nat} (h : i < 16) : at1 F ((i : Int) + 1) = F i := by
  unfold at1
  rw [if_pos (by omega), show ((i : Int) + 1 - 1).toNat = i by omega]
/-- The least slot that is free. -/
def freeAt (F : Fs) (i : Nat) : Prop := i < 16 ∧ F i = none ∧ ∀ j, j < i → F j ≠ none
def full (F : Fs) : Prop := ∀ j, j < 16 → F j ≠ none
/-- The least of the slots with a property, if there is one. -/
theorem least_or (P : Nat → Prop) : (∀ j, j < 16 → ¬ P j) ∨ ∃ i, i < 16 ∧ P i ∧ ∀ j, j < i → ¬ P j := by
  by_cases h : ∀ j, j < 16 → ¬ P j
  · exact .inl h
  · right
    have h1 : ∃ j, j < 16 ∧ P j := by
      by_cases hh : ∃ j, j < 16 ∧ P j
      · exact hh
      · exact absurd (fun j hj hn => hh ⟨j, hj, hn⟩) h
    have key : ∀ n, (∃ j, j < n ∧ j < 16 ∧ P j) → ∃ i, i < 16 ∧ P i ∧ ∀ j, j < i → ¬ P j := by
      intro n
      induction n with
      | zero => rintro ⟨j, hj, _⟩; omega
      | succ n ih =>
        rintro ⟨j, hj, h16, hn⟩
        by_cases hb : ∃ j', j' < n ∧ j' < 16 ∧ P j'
        · exact ih hb
        · have : j = n := by
            by_cases hjn : j < n
            · exact absurd ⟨j, hjn, h16, hn⟩ hb
            · omega
          subst this
          exact ⟨j, h16, hn, fun j' hj' hn' => hb ⟨j', hj', by omega, hn'⟩⟩
    obtain ⟨j, hj, hn⟩ := h1
    exact key 16 ⟨j, hj, hj, hn⟩
theorem free_or (F : Fs) : full F ∨ ∃ i, freeAt F i := by
  rcases least_or (fun j => F j = none) with h | ⟨i, h1, h2, h3⟩
  · exact .inl h
  · exact .inr ⟨i, h1, h2, h3⟩
/-- A slot that has a port and is not joined. -/
def hasP (F : Fs) (port : Int) (i : Nat) : Prop := ∃ x, F i = some x ∧ x.port = port ∧ x.kind ≠ 3
def namedAt (F : Fs) (port : Int) (i : Nat) : Prop := i < 16 ∧ hasP F port i ∧ ∀ j, j < i → ¬ hasP F port j
def noName (F : Fs) (port : Int) : Prop := ∀ j, j < 16 → ¬ hasP F port j
theorem named_or (F : Fs) (port : Int) : noName F port ∨ ∃ i, namedAt F port i := least_or _
theorem free_one {F : Fs} {i j : Nat} (h : freeAt F i) (h' : freeAt F j) : i = j := by
  rcases Nat.lt_trichotomy i j with e | e | e
  · exact absurd h.2.1 (h'.2.2 i e)
  · exact e
  · exact absurd h'.2.1 (h.2.2 j e)
theorem free_full {F : Fs} {i : Nat} (h : freeAt F i) (h' : full F) : False := h' i h.1 h.2.1
theorem named_one {F : Fs} {port : Int} {i j : Nat} (h : namedAt F port i) (h' : namedAt F port j) : i = j := by
  rcases Nat.lt_trichotomy i j with e | e | e
  · exact absurd h.2.1 (h'.2.2 i e)
  · exact e
  · exact absurd h'.2.1 (h.2.2 j e)
theorem named_no {F : Fs} {port : Int} {i : Nat} (h : namedAt F port i) (h' : noName F port) : False := h' i h.1 h.2.1
/-- What each call answers (as a relation) and leaves. -/
def madeR (F : Fs) (x y : Int) (F' : Fs) : Prop := (full F ∧ x = 0 ∧ y = 6 ∧ F' = F) ∨ ∃ i, freeAt F i ∧ x = (i : Int) + 1 ∧ y = 0 ∧ F' = put F i (some .zero)
inductive NameR (F : Fs) (id port : Int) : Int → Fs → Prop
  | arg (h : port < 1 ∨ 99 < port) : NameR F id port 1 F
  | none (h : 1 ≤ port ∧ port ≤ 99) (h1 : at1 F id = none) : NameR F id port 4 F
  | state (h : 1 ≤ port ∧ port ≤ 99) {x : Sk} (h1 : at1 F id = some x) (h2 : x.kind ≠ 0) : NameR F id port 8 F
  | there (h : 1 ≤ port ∧ port ≤ 99) {x : Sk} (h1 : at1 F id = some x) (h2 : x.kind = 0) {i : Nat} (h3 : namedAt F port i) : NameR F id port 5 F
  | ok (h : 1 ≤ port ∧ port ≤ 99) {j : Nat} (hj : j < 16) (he : id = (j : Int) + 1) {x : Sk} (h1 : F j = some x) (h2 : x.kind = 0) (h3 : noName F port) : NameR F id port 0 (put F j (some { x with kind := 1, port := port }))
inductive HearR (F : Fs) (id many : Int) : Int → Fs → Prop
  | arg (h : many < 1 ∨ 4 < many) : HearR F id many 1 F
  | none (h : 1 ≤ many ∧ many ≤ 4) (h1 : at1 F id = none) : HearR F id many 4 F
  | state (h : 1 ≤ many ∧ many ≤ 4) {x : Sk} (h1 : at1 F id = some x) (h2 : x.kind ≠ 1) : HearR F id many 8 F
  | ok (h : 1 ≤ many ∧ many ≤ 4) {j : Nat} (hj : j < 16) (he : id = (j : Int) + 1) {x : Sk} (h1 : F j = some x) (h2 : x.kind = 1) : HearR F id many 0 (put F j (some { x with kind := 2, many := many }))
inductive ReachR (F : Fs) (id port : Int) : Int → Fs → Prop
  | arg (h : port < 1 ∨ 99 < port) : ReachR F id port 1 F
  | none (h : 1 ≤ port ∧ port ≤ 99) (h1 : at1 F id = none) : ReachR F id port 4 F
  | state (h : 1 ≤ port ∧ port ≤ 99) {x : Sk} (h1 : at1 F id = some x) (h2 : x.kind ≠ 0) : ReachR F id port 8 F
  | pipe (h : 1 ≤ port ∧ port ≤ 99) {x : Sk} (h1 : at1 F id = some x) (h2 : x.kind = 0) (h3 : noName F port) : ReachR F id port 10 F
  | deaf (h : 1 ≤ port ∧ port ≤ 99) {x : Sk} (h1 : at1 F id = some x) (h2 : x.kind = 0) {k : Nat} {y : Sk} (h3 : namedAt F port k) (h4 : F k = some y) (h5 : y.kind ≠ 2) : ReachR F id port 10 F
  | wait (h : 1 ≤ port ∧ port ≤ 99) {x : Sk} (h1 : at1 F id = some x) (h2 : x.kind = 0) {k : Nat} {y : Sk} (h3 : namedAt F port k) (h4 : F k = some y) (h5 : y.kind = 2) (h6 : (y.q.length : Int) = y.many) : ReachR F id port 9 F
  | full (h : 1 ≤ port ∧ port ≤ 99) {x : Sk} (h1 : at1 F id = some x) (h2 : x.kind = 0) {k : Nat} {y : Sk} (h3 : namedAt F port k) (h4 : F k = some y) (h5 : y.kind = 2) (h6 : (y.q.length : Int) ≠ y.many) (h7 : full F) : ReachR F id port 6 F
  | ok (h : 1 ≤ port ∧ port ≤ 99) {j : Nat} (hj : j < 16) (he : id = (j : Int) + 1) {x : Sk} (h1 : F j = some x) (h2 : x.kind = 0) {k : Nat} {y : Sk} (h3 : namedAt F port k) (h4 : F k = some y) (h5 : y.kind = 2) (h6 : (y.q.length : Int) ≠ y.many) {i : Nat} (h7 : freeAt F i) :
      ReachR F id port 0 (put (put (put F i (some { Sk.zero with kind := 3, port := port, peer := id })) j (some { x with kind := 3, port := port, peer := (i : Int) + 1 })) k (some { y with q := y.q ++ [(i : Int) + 1] }))
inductive AcceptR (F : Fs) (id : Int) : Int → Int → Fs → Prop
  | none (h1 : at1 F id = none) : AcceptR F id 0 4 F
  | state {x : Sk} (h1 : at1 F id = some x) (h2 : x.kind ≠ 2) : AcceptR F id 0 8 F
  | wait {x : Sk} (h1 : at1 F id = some x) (h2 : x.kind = 2) (h3 : x.q = []) : AcceptR F id 0 9 F
  | ok {j : Nat} (hj : j < 16) (he : id = (j : Int) + 1) {x : Sk} (h1 : F j = some x) (h2 : x.kind = 2) {n : Int} {r : List Int} (h3 : x.q = n :: r) : AcceptR F id n 0 (put F j (some { x with q := r }))
inductive WriteR (F : Fs) (id : Int) (xs : List Int) : Int → Int → Fs → Prop
  | arg (h : 256 < xs.length) : WriteR F id xs 0 1 F
  | none (h : xs.length ≤ 256) (h1 : at1 F id = none) : WriteR F id xs 0 4 F
  | state (h : xs.length ≤ 256) {x : Sk} (h1 : at1 F id = some x) (h2 : x.kind ≠ 3 ∨ x.shut = true) : WriteR F id xs 0 8 F
  | pipe (h : xs.length ≤ 256) {x : Sk} (h1 : at1 F id = some x) (h2 : x.kind = 3) (h3 : x.shut = false) (h4 : at1 F x.peer = none) : WriteR F id xs 0 10 F
  | wait (h : xs.length ≤ 256) {x : Sk} (h1 : at1 F id = some x) (h2 : x.kind = 3) (h3 : x.shut = false) {y : Sk} (h4 : at1 F x.peer = some y) (h5 : 0 < xs.length) (h6 : y.bs.length = 64) : WriteR F id xs 0 9 F
  | ok (h : xs.length ≤ 256) {x : Sk} (h1 : at1 F id = some x) (h2 : x.kind = 3) (h3 : x.shut = false) {k : Nat} (hk : k < 16) (he : x.peer = (k : Int) + 1) {y : Sk} (h4 : F k = some y) (h5 : xs.length = 0 ∨ y.bs.length ≠ 64) :
      WriteR F id xs (min xs.length (64 - y.bs.length) : Nat) 0 (put F k (some { y with bs := y.bs ++ xs.take (64 - y.bs.length) }))
inductive ReadR (F : Fs) (id n : Int) : List Int → Int → Fs → Prop
  | arg (h : n < 0 ∨ 256 < n) : ReadR F id n [] 1 F
  | none (h : 0 ≤ n ∧ n ≤ 256) (h1 : at1 F id = none) : ReadR F id n [] 4 F
  | state (h : 0 ≤ n ∧ n ≤ 256) {x : Sk} (h1 : at1 F id = some x) (h2 : x.kind ≠ 3) : ReadR F id n [] 8 F
  | wait (h : 0 ≤ n ∧ n ≤ 256) {x : Sk} (h1 : at1 F id = some x) (h2 : x.kind = 3) (h3 : 0 < n) (h4 : x.bs = []) {y : Sk} (h5 : at1 F x.peer = some y) (h6 : y.shut = false) : ReadR F id n [] 9 F
  | ok (h : 0 ≤ n ∧ n ≤ 256) {j : Nat} (hj : j < 16) (he : id = (j : Int) + 1) {x : Sk} (h1 : F j = some x) (h2 : x.kind = 3) (h3 : ¬ (0 < n ∧ x.bs = [] ∧ ∃ y, at1 F x.peer = some y ∧ y.shut = false)) :
      ReadR F id n (x.bs.take n.toNat) 0 (put F j (some { x with bs := x.bs.drop n.toNat }))
inductive ShutR (F : Fs) (id : Int) : Int → Fs → Prop
  | none (h1 : at1 F id = none) : ShutR F id 4 F
  | state {x : Sk} (h1 : at1 F id = some x) (h2 : x.kind ≠ 3 ∨ x.shut = true) : ShutR F id 8 F
  | ok {j : Nat} (hj : j < 16) (he : id = (j : Int) + 1) {x : Sk} (h1 : F j = some x) (h2 : x.kind = 3) (h3 : x.shut = false) : ShutR F id 0 (put F j (some { x with shut := true }))
/-- Those of L are there no more. -/
def cutL (F : Fs) (L : List Int) : Fs := fun i => if ((i : Int) + 1) ∈ L then none else (F i).map fun y => { y with peer := if y.peer ∈ L then 0 else y.peer }
def flt (F : Fs) (L : List Int) : Fs := fun i => (F i).map fun y => { y with q := y.q.filter (fun k => decide (k ∉ L)) }
def dropF (F : Fs) (L : List Int) : Fs := cutL (flt F L) L
inductive DropR (F : Fs) (id : Int) : Int → Fs → Prop
  | none (h1 : at1 F id = none) : DropR F id 4 F
  | ok {x : Sk} (h1 : at1 F id = some x) : DropR F id 0 (dropF F (id :: x.q))
inductive TellR (F : Fs) (id : Int) : Int → Int → Int → Int → Prop
  | none (h1 : at1 F id = none) : TellR F id 0 0 0 4
  | ok {x : Sk} (h1 : at1 F id = some x) : TellR F id x.kind x.port ((x.q.length : Int) + x.bs.length) 0
def ids (F : Fs) : List Int := (List.range 16).filterMap fun i => (F i).map fun _ => (i : Int) + 1
/-- Cuts come together. -/
theorem cutL_nil (F : Fs) : cutL F [] = F := by
  funext i
  simp only [cutL, List.not_mem_nil, if_false]
  cases F i <;> rfl
theorem cutL_cut (F : Fs) (L M : List Int) (hz : (0 : Int) ∉ M) : cutL (cutL F L) M = cutL F (L ++ M) := by
  funext i
  unfold cutL
  by_cases h : ((i : Int) + 1) ∈ M
  · rw [if_pos h, if_pos (List.mem_append.2 (.inr h))]
  · rw [if_neg h]
    by_cases h2 : ((i : Int) + 1) ∈ L
    · rw [if_pos h2, if_pos (List.mem_append.2 (.inl h2))]; rfl
    · rw [if_neg h2, if_neg (by rw [List.mem_append]; rintro (e | e); exact h2 e; exact h e)]
      cases F i with
      | none => rfl
      | some y =>
        simp only [Option.map_some, Option.some.injEq]
        by_cases e : y.peer ∈ L
        · have e2 : y.peer ∈ L ++ M := List.mem_append.2 (.inl e)
          simp only [if_pos e, if_neg hz, if_pos e2]
        · by_cases e1 : y.peer ∈ M
          · have e2 : y.peer ∈ L ++ M := List.mem_append.2 (.inr e1)
            simp only [if_neg e, if_pos e1, if_pos e2]
          · have e2 : y.peer ∉ L ++ M := by rw [List.mem_append]; rintro (q | q); exact e q; exact e1 q
            simp only [if_neg e, if_neg e1, if_neg e2]
theorem cutL_mem {F : Fs} {L M : List Int} (h : ∀ k, k ∈ L ↔ k ∈ M) : cutL F L = cutL F M := by
  funext i
  unfold cutL
  simp only [h]
theorem flt_cut (F : Fs) (L M : List Int) : flt (cutL F L) M = cutL (flt F M) L := by
  funext i
  unfold flt cutL
  by_cases h : ((i : Int) + 1) ∈ L
  · simp only [if_pos h, Option.map_none]
  · simp only [if_neg h]
    cases F i <;> rfl
theorem flt_flt (F : Fs) (L M : List Int) : flt (flt F L) M = flt F (L ++ M) := by
  funext i
  unfold flt
  cases F i with
  | none => rfl
  | some y =>
    simp only [Option.map_some, List.filter_filter, Option.some.injEq]
    congr 1
    apply List.filter_congr
    intro k _
    by_cases h1 : k ∈ L <;> by_cases h2 : k ∈ M <;> simp [List.mem_append, h1, h2]
theorem flt_nil (F : Fs) : flt F [] = F := by
  funext i
  unfold flt
  cases F i with
  | none => rfl
  | some y =>
    have e : y.q.filter (fun k => decide (k ∉ ([] : List Int))) = y.q := List.filter_eq_self.2 (fun k _ => by simp)
    simp only [Option.map_some, e]
/-- The reference's way: one after the other. -/
theorem drop_step (F : Fs) (L : List Int) (n : Int) (hn : n ≠ 0) : dropF (dropF F L) [n] = dropF F (L ++ [n]) := by
  unfold dropF
  rw [flt_cut, cutL_cut _ _ _ (by simpa using fun e => hn e.symm), flt_flt]
/-- The whole state. -/
structure Inv (F : Fs) : Prop where
  out : ∀ i, 16 ≤ i → F i = none
  peer : ∀ i x, i < 16 → F i = some x → x.peer ≠ 0 → x.kind = 3 ∧ ∃ (j : Nat) (y : Sk), j < 16 ∧ j ≠ i ∧ x.peer = (j : Int) + 1 ∧ F j = some y ∧ y.kind = 3 ∧ y.peer = (i : Int) + 1
  queue : ∀ i x k, i < 16 → F i = some x → k ∈ x.q → x.kind = 2 ∧ ∃ (j : Nat) (y : Sk), j < 16 ∧ k = (j : Int) + 1 ∧ F j = some y ∧ y.kind = 3
  nodup : ∀ i x, i < 16 → F i = some x → x.q.Nodup
  apart : ∀ i i' x x' k, i < 16 → i' < 16 → F i = some x → F i' = some x' → i ≠ i' → k ∈ x.q → k ∉ x'.q
theorem Inv.empty : Inv (fun _ => none) := ⟨fun _ _ => rfl, fun _ _ _ h => (nomatch h), fun _ _ _ _ h => (nomatch h), fun _ _ _ h => (nomatch h), fun _ _ _ _ _ _ _ h => (nomatch h)⟩
end Go.Proofs.Ytmoanemhjcdjkaa
