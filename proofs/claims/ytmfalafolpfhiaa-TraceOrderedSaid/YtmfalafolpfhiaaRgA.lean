/- Rings in a graph: the plain law. -/
import Derived.Test.YtmfalafolpfhiaaRrD
namespace Go.Proofs.Ytmfalafolpfhiaa
set_option maxHeartbeats 400000
set_option linter.unusedVariables false
set_option linter.unusedSimpArgs false
section
variable {es : List (Int × Int)}
/-- The nodes behind s. -/
def sucs (es : List (Int × Int)) (s : Int) : List Int := behind es s es.length
theorem sucs_mem {s m : Int} : m ∈ sucs es s ↔ (s, m) ∈ es := behind_mem rfl
/-- n is come to from s by one edge or more. -/
def Hop (es : List (Int × Int)) (s n : Int) : Prop := Rch es (sucs es s) n
def Ringed (es : List (Int × Int)) : Prop := ∃ s, Hop es s s
theorem Hop.one {s n : Int} (h : (s, n) ∈ es) : Hop es s n := Rch.clo.1 n (sucs_mem.2 h)
theorem Hop.more {s n m : Int} (h : Hop es s n) (he : (n, m) ∈ es) : Hop es s m := Rch.clo.2 (n, m) he h
theorem Hop.trans {s n m : Int} (h : Hop es s n) (h2 : Hop es n m) : Hop es s m :=
  h2 (Hop es s) ⟨fun x hx => h.more (sucs_mem.1 hx), fun e he h3 => h3.more he⟩
theorem Hop.last {s n : Int} (h : Hop es s n) : ∃ a, (a, n) ∈ es := by
  refine h (fun n => ∃ a, (a, n) ∈ es) ⟨fun x hx => ⟨s, sucs_mem.1 hx⟩, fun e he _ => ⟨e.1, he⟩⟩
theorem Hop.first {s n : Int} (h : Hop es s n) : ∃ c, (s, c) ∈ es ∧ (c = n ∨ Hop es c n) := by
  refine h (fun n => ∃ c, (s, c) ∈ es ∧ (c = n ∨ Hop es c n)) ⟨fun x hx => ⟨x, sucs_mem.1 hx, .inl rfl⟩, ?_⟩
  rintro ⟨a, b⟩ he ⟨c, hc, hh⟩
  refine ⟨c, hc, .inr ?_⟩
  rcases hh with rfl | hh
  · exact Hop.one he
  · exact hh.more he
theorem Hop.ok2 (hok : ∀ e ∈ es, OkE e) {s n : Int} (h : Hop es s n) : OkN n := by
  obtain ⟨a, ha⟩ := h.last
  exact (hok _ ha).2
theorem Hop.ok1 (hok : ∀ e ∈ es, OkE e) {s n : Int} (h : Hop es s n) : OkN s := by
  obtain ⟨a, ha, _⟩ := h.first
  exact (hok _ ha).1
/-- The edge lies on a ring. -/
def OnC (es : List (Int × Int)) (e : Int × Int) : Prop := e ∈ es ∧ (e.2 = e.1 ∨ Hop es e.2 e.1)
theorem OnC.ring {e : Int × Int} (h : OnC es e) : Ringed es := by
  obtain ⟨h1, h2⟩ := h
  refine ⟨e.1, ?_⟩
  rcases h2 with h2 | h2
  · have : (e.1, e.1) ∈ es := by
      have : e = (e.1, e.1) := by
        obtain ⟨a, b⟩ := e
        dsimp only at h2
        rw [h2]
      rw [← this]; exact h1
    exact Hop.one this
  · exact (Hop.one (es := es) (s := e.1) (n := e.2) h1).trans h2
theorem Ringed.edge (h : Ringed es) : ∃ e, OnC es e := by
  obtain ⟨s, h⟩ := h
  obtain ⟨c, hc, hh⟩ := h.first
  exact ⟨(s, c), hc, hh⟩
theorem OnC.next {e : Int × Int} (h : OnC es e) : ∃ e', OnC es e' ∧ e'.1 = e.2 := by
  obtain ⟨a, b⟩ := e
  obtain ⟨h1, h2⟩ := h
  dsimp only at h2
  rcases h2 with h2 | h2
  · subst h2; exact ⟨(b, b), ⟨h1, .inl rfl⟩, rfl⟩
  · obtain ⟨c, hc, hh⟩ := h2.first
    refine ⟨(b, c), ⟨hc, .inr ?_⟩, rfl⟩
    rcases hh with rfl | hh
    · exact Hop.one h1
    · exact hh.more h1
open Classical in
/-- How many nodes are come to. -/
noncomputable def hopN (es : List (Int × Int)) (n : Int) : Nat := ((List.range 64).filter (fun (k : Nat) => decide (Hop es n (k : Int)))).length
theorem filter_lt {p q : Nat → Bool} {l : List Nat} (h : ∀ x ∈ l, p x = true → q x = true) {x : Nat} (hx : x ∈ l) (hp : p x = false) (hq : q x = true) : (l.filter p).length < (l.filter q).length := by
  induction l with
  | nil => cases hx
  | cons a l ih =>
    have hle : ∀ l : List Nat, (∀ x ∈ l, p x = true → q x = true) → (l.filter p).length ≤ (l.filter q).length := by
      intro l
      induction l with
      | nil => intro _; simp
      | cons b l ih2 =>
        intro h
        have i2 := ih2 (fun x hx => h x (List.mem_cons_of_mem _ hx))
        have hb := h b (List.mem_cons_self ..)
        cases hpb : p b with
        | true => rw [List.filter_cons_of_pos hpb, List.filter_cons_of_pos (hb hpb)]; simpa using i2
        | false =>
          rw [List.filter_cons_of_neg (by simp [hpb])]
          cases hqb : q b with
          | true => rw [List.filter_cons_of_pos hqb]; simp only [List.length_cons]; omega
          | false => rw [List.filter_cons_of_neg (by simp [hqb])]; exact i2
    rcases List.mem_cons.1 hx with rfl | hx
    · rw [List.filter_cons_of_neg (by simp [hp]), List.filter_cons_of_pos hq]
      have := hle l (fun y hy => h y (List.mem_cons_of_mem _ hy))
      simp only [List.length_cons]; omega
    · have i1 := ih (fun y hy => h y (List.mem_cons_of_mem _ hy)) hx
      have ha := h a (List.mem_cons_self ..)
      cases hpa : p a with
      | true => rw [List.filter_cons_of_pos hpa, List.filter_cons_of_pos (ha hpa)]; simpa using i1
      | false =>
        rw [List.filter_cons_of_neg (by simp [hpa])]
        cases hqa : q a with
        | true => rw [List.filter_cons_of_pos hqa]; simp only [List.length_cons]; omega
        | false => rw [List.filter_cons_of_neg (by simp [hqa])]; exact i1
theorem hopN_lt (hok : ∀ e ∈ es, OkE e) (hno : ¬ Ringed es) {a b : Int} (h : (a, b) ∈ es) : hopN es b < hopN es a := by
  obtain ⟨_, hb1, hb2⟩ := hok _ h
  dsimp only at hb1 hb2
  have e : ((b.toNat : Nat) : Int) = b := by omega
  unfold hopN
  refine filter_lt (x := b.toNat) (fun x _ hx => ?_) (List.mem_range.2 (by omega)) ?_ ?_
  · simp only [decide_eq_true_eq] at hx ⊢
    exact (Hop.one h).trans hx
  · simp only [decide_eq_false_iff_not]
    intro hh
    rw [e] at hh
    exact hno ⟨b, hh⟩
  · simp only [decide_eq_true_eq]
    rw [e]; exact Hop.one h
theorem leads_ring (hok : ∀ e ∈ es, OkE e) {L : Int × Int → Prop} (hL : ∀ e, L e → e ∈ es) (hn : ∀ e, L e → ∃ e', L e' ∧ e'.1 = e.2) {e : Int × Int} (he : L e) : Ringed es := by
  refine Classical.byContradiction fun hno => ?_
  have key : ∀ m, ∀ e, L e → hopN es e.2 < m → False := by
    intro m
    induction m with
    | zero => intro e _ h; omega
    | succ m ih =>
      intro e he h
      obtain ⟨e', he', h1⟩ := hn e he
      have := hopN_lt hok hno (a := e'.1) (b := e'.2) (hL _ he')
      rw [h1] at this
      exact ih e' he' (by omega)
  exact key _ e he (Nat.lt_succ_self _)
/-! the search by breadth -/
/-- On the way from s: the nodes ws, whence each was come to, k of them looked at. -/
structure Bfs (es : List (Int × Int)) (s : Int) (F : Int → Option Int) (ws : List Int) (k : Nat) : Prop where
  head : ws[0]? = some s
  nd : ws.Nodup
  met : ∀ n v, F n = some v → Hop es s n ∧ n ∈ ws ∧ n ≠ s
  all : ∀ n ∈ ws, n ≠ s → ∃ v, F n = some v
  back : ∀ j, 0 < j → j < ws.length → ∃ i, i < j ∧ F (ws.getD j 0) = some (ws.getD i 0)
  done : ∀ i, i < k → i < ws.length → ∀ m, (ws.getD i 0, m) ∈ es → ∃ v, F m = some v
theorem Bfs.start (es : List (Int × Int)) (s : Int) : Bfs es s (fun _ => none) [s] 0 :=
  ⟨rfl, by simp, fun n v h => (by cases h), fun n hn h => absurd (by simpa using hn) h, fun j h1 h2 => (by simp only [List.length_singleton] at h2; omega), fun i h => (by omega)⟩
theorem Bfs.pos {s : Int} {F : Int → Option Int} {ws : List Int} {k : Nat} (h : Bfs es s F ws k) : 0 < ws.length := by
  have := h.head
  rcases Nat.eq_zero_or_pos ws.length with h0 | h0
  · rw [List.eq_nil_of_length_eq_zero h0] at this; cases this
  · exact h0
theorem Bfs.ok {s : Int} {F : Int → Option Int} {ws : List Int} {k : Nat} (h : Bfs es s F ws k) (hs : OkN s) (hok : ∀ e ∈ es, OkE e) : ∀ n ∈ ws, OkN n := by
  intro n hn
  by_cases e : n = s
  · subst e; exact hs
  · obtain ⟨v, hv⟩ := h.all n hn e
    exact (h.met n v hv).1.ok2 hok
theorem Bfs.at_hop {s : Int} {F : Int → Option Int} {ws : List Int} {k i : Nat} (h : Bfs es s F ws k) (hi : i < ws.length) : ws.getD i 0 = s ∨ Hop es s (ws.getD i 0) := by
  by_cases e : ws.getD i 0 = s
  · exact .inl e
  · refine .inr ?_
    have hm : ws.getD i 0 ∈ ws := by simp [List.getD, List.getElem?_eq_getElem hi]
    obtain ⟨v, hv⟩ := h.all _ hm e
    exact (h.met _ v hv).1
/-- A node behind the one that is looked at, not met yet. -/
theorem Bfs.hop {s n : Int} {F : Int → Option Int} {ws : List Int} {k : Nat} (h : Bfs es s F ws k) (hk : k < ws.length) (he : (ws.getD k 0, n) ∈ es) : Hop es s n := by
  rcases h.at_hop hk with e | e
  · rw [e] at he; exact Hop.one he
  · exact e.more he
theorem Bfs.add {s n : Int} {F : Int → Option Int} {ws : List Int} {k : Nat} (h : Bfs es s F ws k) (hk : k < ws.length) (he : (ws.getD k 0, n) ∈ es) (hF : F n = none) (hn : n ≠ s) :
    Bfs es s (fun z => if z = n then some (ws.getD k 0) else F z) (ws ++ [n]) k := by
  have hnw : n ∉ ws := fun hm => by obtain ⟨v, hv⟩ := h.all n hm hn; rw [hF] at hv; cases hv
  have hg : ∀ i, i < ws.length → (ws ++ [n]).getD i 0 = ws.getD i 0 := fun i hi => by simp [List.getD, List.getElem?_append_left hi]
  have hm : ∀ i, i < ws.length → ws.getD i 0 ∈ ws := fun i hi => by simp [List.getD, List.getElem?_eq_getElem hi]
  refine ⟨?_, ?_, fun z v hz => ?_, fun z hz hzs => ?_, fun j h1 h2 => ?_, fun i hi h2 m hm2 => ?_⟩
  · rw [List.getElem?_append_left h.pos]; exact h.head
  · rw [List.nodup_append]
    refine ⟨h.nd, by simp, fun a ha c hc => ?_⟩
    simp at hc
    subst hc
    intro e; subst e; exact hnw ha
  · by_cases e : z = n
    · subst e; exact ⟨h.hop hk he, by simp, hn⟩
    · have hz : F z = some v := by simpa [e] using hz
      obtain ⟨a, b, c⟩ := h.met z v hz
      exact ⟨a, List.mem_append_left _ b, c⟩
  · by_cases e : z = n
    · exact ⟨_, if_pos e⟩
    · rcases List.mem_append.1 hz with hz | hz
      · obtain ⟨v, hv⟩ := h.all z hz hzs
        exact ⟨v, by simpa [e] using hv⟩
      · simp at hz; exact absurd hz e
  · rw [List.length_append, List.length_singleton] at h2
    by_cases hj : j < ws.length
    · obtain ⟨i, hi, hv⟩ := h.back j h1 hj
      refine ⟨i, hi, ?_⟩
      have e : ws.getD j 0 ≠ n := fun e => hnw (e ▸ hm j hj)
      rw [hg j hj, if_neg e, hg i (by omega)]; exact hv
    · obtain rfl : j = ws.length := by omega
      refine ⟨k, hk, ?_⟩
      have e : (ws ++ [n]).getD ws.length 0 = n := by simp [List.getD]
      rw [e, if_pos rfl, hg k hk]
  · rw [hg i (by omega)] at hm2
    obtain ⟨v, hv⟩ := h.done i hi (by omega) m hm2
    by_cases e : m = n
    · exact ⟨_, if_pos e⟩
    · exact ⟨v, by simpa [e] using hv⟩
/-- All behind the one that is looked at are met. -/
theorem Bfs.step {s : Int} {F : Int → Option Int} {ws : List Int} {k : Nat} (h : Bfs es s F ws k) (ha : ∀ m, (ws.getD k 0, m) ∈ es → ∃ v, F m = some v) : Bfs es s F ws (k + 1) :=
  ⟨h.head, h.nd, h.met, h.all, h.back, fun i hi h2 m hm => by
    rcases Nat.lt_or_ge i k with h3 | h3
    · exact h.done i h3 h2 m hm
    · obtain rfl : i = k := by omega
      exact ha m hm⟩
/-- All are looked at: no ring through s. -/
theorem Bfs.no {s : Int} {F : Int → Option Int} {ws : List Int} (h : Bfs es s F ws ws.length) : ¬ Hop es s s := by
  intro hh
  have key : ∃ v, F s = some v := hh (fun n => ∃ v, F n = some v) ⟨fun n hn => ?_, fun e he h1 => ?_⟩
  · obtain ⟨v, hv⟩ := key
    exact (h.met s v hv).2.2 rfl
  · have h0 : ws.getD 0 0 = s := by simp [List.getD, h.head]
    exact h.done 0 h.pos h.pos n (by rw [h0]; exact sucs_mem.1 hn)
  · obtain ⟨v, hv⟩ := h1
    obtain ⟨_, hm, _⟩ := h.met _ v hv
    obtain ⟨i, hi, e'⟩ := List.getElem_of_mem hm
    refine h.done i hi hi e.2 ?_
    have : ws.getD i 0 = e.1 := by simp [List.getD, List.getElem?_eq_getElem hi, e']
    rw [this]
    exact he
theorem nodup_len (m : Nat) : ∀ l : List Int, l.Nodup → (∀ x ∈ l, 0 ≤ x ∧ x < m) → l.length ≤ m := by
  induction m with
  | zero =>
    intro l _ h
    match l with
    | [] => simp
    | a :: l => have := h a (by simp); omega
  | succ m ih =>
    intro l hn h
    have h1 := ih (l.erase (m : Int)) (hn.erase _) (fun x hx => by
      obtain ⟨a, b⟩ := (hn.mem_erase_iff).1 hx
      have := h x b
      omega)
    rw [List.length_erase] at h1
    split at h1 <;> omega
theorem Bfs.len {s : Int} {F : Int → Option Int} {ws : List Int} {k : Nat} (h : Bfs es s F ws k) (hs : OkN s) (hok : ∀ e ∈ es, OkE e) : ws.length ≤ 64 :=
  nodup_len 64 ws h.nd (fun x hx => by obtain ⟨a, b⟩ := h.ok hs hok x hx; omega)
end
end Go.Proofs.Ytmfalafolpfhiaa
