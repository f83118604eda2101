/- Parts with all that they hold; contract of bind.has; which part is pulled (plain). -/
import Derived.Test.YtplfdibbnkjckaaLkC
import Derived.Test.YtplfdibbnkjckaaObD
import Derived.Test.YtplfdibbnkjckaaObC
namespace Go.Proofs.Ytplfdibbnkjckaa
open Go.RowKit
set_option maxHeartbeats 400000
set_option linter.unusedVariables false
set_option linter.unusedSimpArgs false
/-- A part with its words and its bytes. -/
structure Fo where
  o : Ob
  ws : List Int
  bs : List Int
def Fo.zero : Fo := ⟨.zero, [], []⟩
def Fo.cells (f : Fo) : List Value := f.o.cells
/-- What a part says, without its places. -/
def Fo.says (f : Fo) : List Int × List Int × List Nm × List Nd := (f.ws, f.bs, f.o.ns, f.o.ds)
structure Fo.Full (f : Fo) (w : World) (B : Nat) : Prop where
  fine : f.o.Fine w B
  rw : RW w B f.o.A0 f.o.n0 f.ws
  rb : RB w B f.o.A1 f.o.n1 f.bs
theorem Fo.Full.below' {f : Fo} {w w' : World} {B B' : Nat} (h : f.Full w B) (hb : Below B' w w') (hB : B ≤ B') : f.Full w' B := ⟨h.fine.below' hb hB, h.rw.below' hb hB, h.rb.below' hb hB⟩
theorem Fo.Full.more {f : Fo} {w : World} {B B' : Nat} (h : f.Full w B) (hB : B ≤ B') : f.Full w B' :=
  ⟨⟨⟨h.fine.rd.ns.more hB, h.fine.rd.ds.more hB, h.fine.rd.m0, h.fine.rd.m1, h.fine.rd.m2, h.fine.rd.m3⟩, h.fine.hc, h.fine.hm⟩, Reads.more h.rw hB, h.rb.more hB⟩
theorem Fo.Full.full {f : Fo} {w : World} {B : Nat} (h : f.Full w B) : f.o.Full w B f.ws f.bs := ⟨h.fine.rd, h.rw, h.rb⟩
/-- A slice of parts, with all that they hold. -/
def RF (w : World) (B : Nat) (A : Option Addr) (n : Nat) (fs : List Fo) : Prop := RS Fo.cells 4 w B A n fs ∧ ∀ f ∈ fs, f.Full w B
theorem RF.below' {w w' : World} {B B' n : Nat} {A : Option Addr} {fs : List Fo} (h : RF w B A n fs) (hb : Below B' w w') (hB : B ≤ B') : RF w' B A n fs := ⟨h.1.below' hb hB, fun f hf => (h.2 f hf).below' hb hB⟩
theorem RF.more {w : World} {B B' n : Nat} {A : Option Addr} {fs : List Fo} (h : RF w B A n fs) (hB : B ≤ B') : RF w B' A n fs := ⟨h.1.more hB, fun f hf => (h.2 f hf).more hB⟩
theorem RF.len {w : World} {B n : Nat} {A : Option Addr} {fs : List Fo} (h : RF w B A n fs) : fs.length = n := h.1.2
def osOf (fs : List Fo) : List Ob := fs.map Fo.o
theorem RF.ro {w : World} {B n : Nat} {A : Option Addr} {fs : List Fo} (h : RF w B A n fs) : RO w B A n (osOf fs) := by
  refine ⟨⟨?_, by unfold osOf; rw [List.length_map]; exact h.1.2⟩, fun o ho => ?_⟩
  · have := h.1.1
    unfold osOf
    rw [List.flatMap_map]
    exact this
  · unfold osOf at ho
    obtain ⟨f, hf, rfl⟩ := List.mem_map.1 ho
    exact (h.2 f hf).fine
theorem RF.at_ {w : World} {B n i : Nat} {A : Option Addr} {fs : List Fo} (h : RF w B A n fs) (hi : i < n) :
    ∃ b o f, A = some ⟨b, o, none⟩ ∧ b < B ∧ fs[i]? = some f ∧ f.Full w B ∧ w.cell? ⟨b, o + i * 4, none⟩ = some (.slice f.o.A0 f.o.n0 f.o.c0) ∧ w.cell? ⟨b, o + i * 4 + 1, none⟩ = some (.slice f.o.A1 f.o.n1 f.o.c1) ∧ w.cell? ⟨b, o + i * 4 + 2, none⟩ = some (.slice f.o.A2 f.o.n2 f.o.c2) ∧ w.cell? ⟨b, o + i * 4 + 3, none⟩ = some (.slice f.o.A3 f.o.n3 f.o.c3) := by
  obtain ⟨b, o, e, hb, hm, hc⟩ := RS.at_ (cl := Fo.cells) (s := 4) (fun _ => rfl) Fo.zero h.1 hi
  have hl : i < fs.length := by rw [h.len]; exact hi
  refine ⟨b, o, _, e, hb, ?_, h.2 _ hm, hc 0 _ rfl, hc 1 _ rfl, hc 2 _ rfl, hc 3 _ rfl⟩
  simp [List.getD, List.getElem?_eq_getElem hl]
def hasK (ns : List Nm) (k : List UInt8) : Bool := ns.any fun n => n.key == k
theorem hasK_hit {ns : List Nm} {j : Nat} {n : Nm} {k : List UInt8} (h : ns[j]? = some n) (e : n.key = k) : hasK ns k = true := by
  unfold hasK; rw [List.any_eq_true]; exact ⟨n, List.mem_of_getElem? h, by simpa using e⟩
theorem hasK_step {ns : List Nm} {j : Nat} {n : Nm} {k : List UInt8} (h : ns[j]? = some n) (e : n.key ≠ k) (hj : hasK (ns.take j) k = false) : hasK (ns.take (j + 1)) k = false := by
  obtain ⟨hi, rfl⟩ := List.getElem?_eq_some_iff.1 h
  rw [List.take_succ_eq_append_getElem hi]
  unfold hasK at hj ⊢
  rw [List.any_append, hj]; simpa using e
def HasP (w : World) (b : Bool) (e : Ending) (w' : World) : Prop := e = .returned (.bool b) ∧ Below w.heap.size w w'
set_option maxHeartbeats 1000000 in
set_option maxRecDepth 100000 in
theorem has_any (o : Ob) (s : ByteArray) (w : World) (B : Nat) (h : o.Fine w B) (hB : B ≤ w.heap.size) (hs : s.size ≤ 9223372036854775807) :
    Calls Try.prog 12 #[.agg o.vals, .string s] w (HasP w (hasK o.ns s.data.toList)) := by
  obtain ⟨A0, n0, c0, A1, n1, c1, A2, n2, c2, A3, n3, c3, ns, ds⟩ := o
  have hns := h.rd.ns
  have hm2 := h.rd.m2
  dsimp only at hns hm2
  have HNL := Lib.hid hns.len
  have HNS := Lib.hid hns
  unfold Ob.vals
  dsimp only
  clear h hns
  have hx0 := Blk.new w #[.slice A0 n0 c0, .slice A1 n1 c1, .slice A2 n2 c2, .slice A3 n3 c3] 37
  have hc0 := hx0.cell
  go_enter Try.func12, Try.ntmps12
  go_wp2
  go_loopw [10] (fun i wr => ∃ j : Nat, j ≤ n2 ∧ i = .int .i64 j ∧ Below w.heap.size w wr ∧ Hid (hasK (ns.take j) s.data.toList = false)) (fun i _ => n2 - (intOf i).toNat)
  case atStart => exact ⟨0, by omega, rfl, (Below.refl _ _).alloc (Nat.le_refl _) _, Lib.hid rfl⟩
  case round =>
    clear hc0 hx0
    obtain ⟨j, hj, rfl, hbw, hno⟩ := hrel
    have hsw := hbw.size
    by_cases hlt : j < n2
    rotate_left
    · obtain rfl : j = n2 := by omega
      have e : Hid (hasK ns s.data.toList = false) := Lib.hid (by have := hno.out; rw [← HNL.out, List.take_length] at this; exact this)
      go_wp2
      go_ret
      exact ⟨ob_bool e.out.symm, hbw⟩
    · obtain ⟨b2, o2, rfl, hb2, hfn, y0, y1, y2, y3⟩ := (HNS.out.below' hbw hB).at_ hlt
      have hxq : ns[j]? = some (ns.getD j .zero) := by simp [List.getD, List.getElem?_eq_getElem (by rw [HNL.out]; exact hlt : j < ns.length)]
      generalize ns.getD j .zero = nm at *
      obtain ⟨s2, wh, ad, wk⟩ := nm
      obtain ⟨hs2, _, _⟩ := hfn
      dsimp only at y0 y1 y2 y3 hs2
      have hke : (s2.toList == s.toList) = decide (s2.data.toList = s.data.toList) := key_eq
      have hb3 := hbw.alloc hsw (.cells #[.string s2, .int .i64 wh, .int .i64 ad, .bool wk] 39)
      by_cases hkk : s2.data.toList = s.data.toList
      · have e := Lib.hid (hasK_hit hxq (show Nm.key ⟨s2, wh, ad, wk⟩ = s.data.toList from hkk))
        rw [decide_eq_true hkk] at hke
        clear hkk hxq
        go_wp2
        go_ret
        exact ⟨ob_bool e.out.symm, hb3⟩
      · have e := Lib.hid (hasK_step hxq (show Nm.key ⟨s2, wh, ad, wk⟩ ≠ s.data.toList from hkk) hno.out)
        rw [decide_eq_false hkk] at hke
        clear hkk hxq
        go_wp2
        go_roundw
        case rel => exact ⟨j + 1, by omega, by go_num, hb3, e⟩
        case measure => simp [intOf]; omega
/-! which part is pulled -/
def hasF (s : ByteArray) (f : Fo) : Bool := hasK f.o.ns s.data.toList
def leftOf : List Fo → List Bool → List Fo
  | f :: fs, b :: bs => if b = true then leftOf fs bs else f :: leftOf fs bs
  | _, _ => []
def findT (p : Fo → Bool) : List Fo → List Bool → Option Nat
  | f :: fs, b :: bs => if b = false ∧ p f = true then some 0 else (findT p fs bs).map (· + 1)
  | _, _ => none
def pickR : List ByteArray → List Fo → Option Nat
  | [], _ => none
  | s :: r, lib => (lib.findIdx? (hasF s)).or (pickR r lib)
def pickT : List ByteArray → List Fo → List Bool → Option Nat
  | [], _, _ => none
  | s :: r, lib, bs => (findT (hasF s) lib bs).or (pickT r lib bs)
theorem findT_none {p : Fo → Bool} : ∀ {fs : List Fo} {bs : List Bool}, fs.length = bs.length → findT p fs bs = none → (leftOf fs bs).findIdx? p = none
  | [], [], _, _ => rfl
  | f :: fs, b :: bs, hl, h => by
    simp only [findT] at h
    split at h
    · cases h
    · rename_i hc
      have h' : findT p fs bs = none := by simpa using h
      have ih := findT_none (by simpa using hl) h'
      simp only [leftOf]
      cases b with
      | true => simpa using ih
      | false =>
        have : p f = false := by simpa using hc
        simp [List.findIdx?_cons, this, ih]
  | [], _ :: _, hl, _ => by simp at hl
  | _ :: _, [], hl, _ => by simp at hl
theorem findT_some {p : Fo → Bool} : ∀ {fs : List Fo} {bs : List Bool} {i : Nat}, fs.length = bs.length → findT p fs bs = some i → ∃ i', (leftOf fs bs).findIdx? p = some i' ∧ (leftOf fs bs)[i']? = fs[i]? ∧ (leftOf fs bs).eraseIdx i' = leftOf fs (bs.set i true) ∧ i < fs.length
  | [], [], i, _, h => by simp [findT] at h
  | f :: fs, b :: bs, i, hl, h => by
    simp only [findT] at h
    split at h
    · rename_i hc
      obtain ⟨rfl, hp⟩ := hc
      injection h with h
      subst h
      exact ⟨0, by simp [leftOf, List.findIdx?_cons, hp], by simp [leftOf], by simp [leftOf], by simp⟩
    · rename_i hc
      obtain ⟨j, hj, rfl⟩ := Option.map_eq_some_iff.1 h
      obtain ⟨j', h1, h2, h3, h4⟩ := findT_some (by simpa using hl) hj
      cases b with
      | true => exact ⟨j', by simpa [leftOf] using h1, by simpa [leftOf] using h2, by simpa [leftOf] using h3, by simpa using h4⟩
      | false =>
        have hpf : p f = false := by simpa using hc
        exact ⟨j' + 1, by simp [leftOf, List.findIdx?_cons, hpf, h1], by simpa [leftOf] using h2, by simpa [leftOf] using h3, by simpa using h4⟩
  | [], _ :: _, _, hl, _ => by simp at hl
  | _ :: _, [], _, hl, _ => by simp at hl
theorem pickT_none : ∀ {l : List ByteArray} {fs : List Fo} {bs : List Bool}, fs.length = bs.length → pickT l fs bs = none → pickR l (leftOf fs bs) = none
  | [], _, _, _, _ => rfl
  | s :: r, fs, bs, hl, h => by
    simp only [pickT, Option.or_eq_none_iff] at h
    simp only [pickR, Option.or_eq_none_iff]
    exact ⟨findT_none hl h.1, pickT_none hl h.2⟩
theorem pickT_some : ∀ {l : List ByteArray} {fs : List Fo} {bs : List Bool} {i : Nat}, fs.length = bs.length → pickT l fs bs = some i → ∃ i', pickR l (leftOf fs bs) = some i' ∧ (leftOf fs bs)[i']? = fs[i]? ∧ (leftOf fs bs).eraseIdx i' = leftOf fs (bs.set i true) ∧ i < fs.length
  | [], _, _, _, _, h => by simp [pickT] at h
  | s :: r, fs, bs, i, hl, h => by
    simp only [pickT] at h
    cases hf : findT (hasF s) fs bs with
    | none =>
      rw [hf] at h
      obtain ⟨i', h1, h2⟩ := pickT_some hl (by simpa using h)
      exact ⟨i', by simp [pickR, findT_none hl hf, h1], h2⟩
    | some j =>
      rw [hf] at h
      obtain rfl : j = i := by simpa using h
      obtain ⟨i', h1, h2⟩ := findT_some hl hf
      exact ⟨i', by simp [pickR, h1], h2⟩
theorem findT_snoc {p : Fo → Bool} : ∀ {fs : List Fo} {bs : List Bool} {i : Nat} {f : Fo} {b : Bool}, fs[i]? = some f → bs[i]? = some b → findT p (fs.take (i + 1)) (bs.take (i + 1)) = (findT p (fs.take i) (bs.take i)).or (if b = false ∧ p f = true then some i else none)
  | [], _, i, _, _, h, _ => by simp at h
  | _ :: _, [], i, _, _, _, h => by simp at h
  | x :: fs, y :: bs, 0, f, b, h1, h2 => by
    simp at h1 h2
    subst h1; subst h2
    simp [findT]
  | x :: fs, y :: bs, i + 1, f, b, h1, h2 => by
    simp only [List.getElem?_cons_succ] at h1 h2
    have ih := findT_snoc (p := p) h1 h2
    simp only [List.take_succ_cons, findT]
    rw [ih]
    by_cases hc : y = false ∧ p x = true
    · simp [hc]
    · simp only [hc, if_false]
      cases findT p (fs.take i) (bs.take i) <;> simp
theorem pickT_snoc (s : ByteArray) : ∀ (l : List ByteArray) (fs : List Fo) (bs : List Bool), pickT (l ++ [s]) fs bs = (pickT l fs bs).or (findT (hasF s) fs bs)
  | [], fs, bs => by simp [pickT]
  | x :: l, fs, bs => by
    simp only [List.cons_append, pickT, pickT_snoc s l fs bs]
    rw [Option.or_assoc]
end Go.Proofs.Ytplfdibbnkjckaa
