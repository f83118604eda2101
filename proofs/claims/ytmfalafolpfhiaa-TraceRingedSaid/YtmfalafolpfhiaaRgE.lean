/- Contract of ringref4.TraceRings. -/
import Derived.Test.YtmfalafolpfhiaaRgC
import Derived.Test.YtmfalafolpfhiaaRgD
namespace Go.Proofs.Ytmfalafolpfhiaa
open Go.RowKit Go.Maps
set_option maxHeartbeats 400000
set_option linter.unusedVariables false
set_option linter.unusedSimpArgs false
theorem NSet_grown {w w' : World} {b n : Nat} {f : Nat → Bool} (h : NSet w b n f) {row : Option Nat} (hg : w.grownBy w' row) (hr : row ≠ some b) : NSet w' b n f := h.fr (Fr.of_grown hg) (fun e => hr e)
/-- What ringref4.TraceRings answers. -/
def RingsPost (w : World) (es : List (Int × Int)) (e : Ending) (w' : World) : Prop :=
  ∃ b, e = .returned (.tuple #[.bool b, .int .i64 (ringErr es)]) ∧ (b = true ↔ ringErr es = 0 ∧ Ringed es) ∧ Below w.heap.size w w'
theorem rings_err {w w' : World} {es : List (Int × Int)} {e : Ending} {x : Int} (h : ringErr es = x) (hx : x ≠ 0) (he : e = .returned (.tuple #[.bool false, .int .i64 x])) (hb : Below w.heap.size w w') : RingsPost w es e w' := by
  subst h
  exact ⟨false, he, by simp [hx], hb⟩
theorem rings_ok {w w' : World} {es : List (Int × Int)} {e : Ending} {b : Bool} (h : ringErr es = 0) (hr : b = true ↔ Ringed es) (he : e = .returned (.tuple #[.bool b, .int .i64 0])) (hb : Below w.heap.size w w') : RingsPost w es e w' :=
  ⟨b, by rw [he, h], by rw [hr]; simp [h], hb⟩
/-- The edges that are left: no edge of a ring is lost. -/
structure Lft (es : List (Int × Int)) (L : Int × Int → Bool) : Prop where
  sub : ∀ e, OkE e → L e = true → e ∈ es
  keep : ∀ e, OnC es e → L e = true
/-- Within the round that strikes. -/
structure Rnd (es : List (Int × Int)) (L : Int × Int → Bool) (O : Nat → Bool) (left : Lit → Bool) (L' : Int × Int → Bool) (g : Bool) : Prop where
  sub : ∀ e, OkE e → L' e = true → L e = true
  keep : ∀ e, OnC es e → L' e = true
  seen : ∀ e, OkE e → L' e = true → left (KL e) = false → mkB O e.2 = true
  same : g = false → ∀ e, OkE e → L e = true → L' e = true
  less : cntL es L' + (if g = true then 1 else 0) ≤ cntL es L
/-- The nodes that an edge begins at. -/
def Begs (L : Int × Int → Bool) (left : Lit → Bool) (O : Nat → Bool) : Prop := ∀ m, Mk64 O m ↔ ∃ e, OkE e ∧ L e = true ∧ left (KL e) = false ∧ e.1 = m
theorem Begs.start {L : Int × Int → Bool} {left : Lit → Bool} (h : ∀ e, OkE e → left (KL e) = L e) : Begs L left (fun _ => false) := fun m => by
  constructor
  · rintro ⟨k, _, h, _⟩; cases h
  · rintro ⟨e, he, h1, h2, _⟩; rw [h e he, h1] at h2; cases h2
theorem strike_false {left : Lit → Bool} {x e : Int × Int} (hx : OkE x) (he : OkE e) : ((left (KL e) && !(KL e).sameKey (KL x)) = false) ↔ (left (KL e) = false ∨ e = x) := by
  rw [KL_same he hx]
  by_cases h : e = x <;> simp [h]
theorem Begs.next {L : Int × Int → Bool} {left : Lit → Bool} {O : Nat → Bool} (h : Begs L left O) {p : Nat} (hp : p < 64) {z : Int} (hx : OkE ((p : Int), z)) (hL : L ((p : Int), z) = true) :
    Begs L (fun k => left k && !k.sameKey (KL ((p : Int), z))) (setB O p) := fun m => by
  rw [Mk64.set hp, h m]
  constructor
  · rintro (⟨e, he, h1, h2, h3⟩ | rfl)
    · exact ⟨e, he, h1, (strike_false hx he).2 (.inl h2), h3⟩
    · exact ⟨_, hx, hL, (strike_false hx hx).2 (.inr rfl), rfl⟩
  · rintro ⟨e, he, h1, h2, h3⟩
    rcases (strike_false hx he).1 h2 with h2 | rfl
    · exact .inl ⟨e, he, h1, h2, h3⟩
    · exact .inr h3.symm
theorem Begs.done {L : Int × Int → Bool} {left : Lit → Bool} {O : Nat → Bool} (h : Begs L left O) (hl : ∀ k, left k = false) (m : Int) : Mk64 O m ↔ ∃ e, OkE e ∧ L e = true ∧ e.1 = m := by
  rw [h m]
  constructor
  · rintro ⟨e, a, b, c, d⟩; exact ⟨e, a, b, d⟩
  · rintro ⟨e, a, b, d⟩; exact ⟨e, a, b, hl _, d⟩
theorem Rnd.start {es : List (Int × Int)} {L : Int × Int → Bool} {O : Nat → Bool} {left : Lit → Bool} (h : Lft es L) (hl : ∀ e, OkE e → left (KL e) = L e) : Rnd es L O left L false :=
  ⟨fun e _ h => h, h.keep, fun e he h1 h2 => (by rw [hl e he, h1] at h2; cases h2), fun _ e _ h => h, by simp⟩
theorem Rnd.stay {es : List (Int × Int)} {L L' : Int × Int → Bool} {O : Nat → Bool} {left : Lit → Bool} {g : Bool} (h : Rnd es L O left L' g) {x : Int × Int} (hx : OkE x) (ho : mkB O x.2 = true) : Rnd es L O (fun k => left k && !k.sameKey (KL x)) L' g :=
  ⟨h.sub, h.keep, fun e he h1 h2 => (by
    rcases (strike_false hx he).1 h2 with h2 | rfl
    · exact h.seen e he h1 h2
    · exact ho), h.same, h.less⟩
theorem Rnd.strike {es : List (Int × Int)} {L L' : Int × Int → Bool} {O : Nat → Bool} {left : Lit → Bool} {g : Bool} (hok : ∀ e ∈ es, OkE e) (hl : Lft es L) (hO : ∀ m, Mk64 O m ↔ ∃ e, OkE e ∧ L e = true ∧ e.1 = m) (h : Rnd es L O left L' g) {x : Int × Int} (hx : OkE x) (hL : L' x = true) (ho : mkB O x.2 = false) :
    Rnd es L O (fun k => left k && !k.sameKey (KL x)) (fun z => if z = x then false else L' z) true := by
  refine ⟨fun e he h1 => ?_, fun e he => ?_, fun e he h1 h2 => ?_, fun e => (by cases e), ?_⟩
  · by_cases hex : e = x
    · simp [hex] at h1
    · exact h.sub e he (by simpa [hex] using h1)
  · by_cases hex : e = x
    · subst hex
      obtain ⟨e', h1, h2⟩ := he.next
      have := (mkB_iff O e.2).2 ((hO _).2 ⟨e', hok _ h1.1, hl.keep _ h1, h2⟩)
      rw [ho] at this; cases this
    · simpa [hex] using h.keep e he
  · by_cases hex : e = x
    · simp [hex] at h1
    · rcases (strike_false hx he).1 h2 with h2 | h3
      · exact h.seen e he (by simpa [hex] using h1) h2
      · exact absurd h3 hex
  · have h1 := cntL_del (L := L') (hl.sub x hx (h.sub x hx hL)) hL
    have h2 := h.less
    rw [if_pos rfl]
    split at h2 <;> omega
theorem Rnd.lft {es : List (Int × Int)} {L L' : Int × Int → Bool} {O : Nat → Bool} {left : Lit → Bool} {g : Bool} (h : Rnd es L O left L' g) (hl : Lft es L) : Lft es L' := ⟨fun e he h1 => hl.sub e he (h.sub e he h1), h.keep⟩
theorem Rnd.done {es : List (Int × Int)} {L L' : Int × Int → Bool} {O : Nat → Bool} {left : Lit → Bool} (hok : ∀ e ∈ es, OkE e) (hl : Lft es L) (hO : ∀ m, Mk64 O m ↔ ∃ e, OkE e ∧ L e = true ∧ e.1 = m) (h : Rnd es L O left L' false) (hz : ∀ k, left k = false) :
    (∃ e, OkE e ∧ L' e = true) ↔ Ringed es := by
  constructor
  · rintro ⟨e, he, h1⟩
    refine leads_ring hok (L := fun e => OkE e ∧ L e = true) (fun e h => hl.sub e h.1 h.2) (fun e h2 => ?_) ⟨he, h.sub e he h1⟩
    have := h.seen e h2.1 (h.same rfl e h2.1 h2.2) (hz _)
    obtain ⟨e', a, b, c⟩ := (hO _).1 ((mkB_iff O _).1 this)
    exact ⟨e', ⟨a, b⟩, c⟩
  · intro hr
    obtain ⟨e, he⟩ := hr.edge
    exact ⟨e, hok _ he.1, h.keep e he⟩
set_option maxHeartbeats 4000000 in
set_option maxRecDepth 100000 in
theorem rings_any (A : Option Addr) (n c : Nat) (es : List (Int × Int)) (w : World) (B : Nat) (h : RE w B A n es) (hB : B ≤ w.heap.size) (hn : n ≤ 9223372036854775807) :
    Calls Try.prog 10 #[.slice A n c] w (RingsPost w es) := by
  have HL := Lib.hid h.2
  have hmk : ∀ W : World, (Instr.makeMap 47 none).run Try.prog W = .ok (.map (some W.heap.size)) (W.alloc (.map #[] 0)) := by intro W; rfl
  have hmk2 : ∀ W : World, (Instr.makeMap 41 none).run Try.prog W = .ok (.map (some W.heap.size)) (W.alloc (.map #[] 0)) := by intro W; rfl
  by_cases hbig : 4096 < n
  · have HB := Lib.hid (show ringErr es = 2 from if_pos (by rw [HL.out]; exact hbig))
    have hbz : (4096 : Int) < n := by omega
    go_enter Try.func10, Try.ntmps10
    go_wp2
    go_ret2
    exact rings_err HB.out (by decide) rfl (Below.refl _ _)
  have hbz : ¬ (4096 : Int) < n := by omega
  have hn2 : n ≤ 4096 := by omega
  have hsm : ¬ 4096 < es.length := by rw [h.2]; exact hbig
  clear hbig
  have hE := edgesFault_any A n c es w B h hB hn
  by_cases hed : ∀ e ∈ es, OkE e
  case neg =>
    have he1 : edgesErr es = 1 := if_neg hed
    rw [he1] at hE
    have HE : Hid (ringErr es = 1) := Lib.hid (by unfold ringErr; rw [if_neg hsm, if_neg hed])
    have HEE := Lib.hid hE
    clear hed he1 hsm hE
    go_enter Try.func10, Try.ntmps10
    go_wp2_with (go_at_call 14; refine HEE.out.mono ?_; rintro e w4 ⟨rfl, hb4⟩)
    go_ret2
    exact rings_err HE.out (by decide) rfl hb4
  have he0 : edgesErr es = 0 := if_pos hed
  rw [he0] at hE
  have HZ : Hid (ringErr es = 0) := Lib.hid (by unfold ringErr; rw [if_neg hsm, if_pos hed])
  have HEE := Lib.hid hE
  have HG := Lib.hid hed
  clear hed he0 hsm hE
  go_enter Try.func10, Try.ntmps10
  go_wp2_with (go_at_call 14; refine HEE.out.mono ?_; rintro e w4 ⟨rfl, hb4⟩)
  have hz4 := hb4.size
  have hs0 := ESet.made w4
  have hb0 : Below w.heap.size w (w4.alloc (.map #[] 0)) := hb4.alloc hz4 _
  obtain ⟨b, hb⟩ : ∃ b, b = w4.heap.size := ⟨_, rfl⟩
  obtain ⟨W0, hW0⟩ : ∃ W0, W0 = w4.alloc (.map #[] 0) := ⟨_, rfl⟩
  have hbw : w.heap.size ≤ b := by omega
  rw [← hb] at hs0
  rw [← hW0] at hs0 hb0 ⊢
  rw [← hb]
  clear hb hW0 hb4 hz4 HEE
  go_loopw [23] (fun i wr => ∃ (k : Nat) (L : Int × Int → Bool), k ≤ n ∧ i = .int .i64 k ∧ Hid (ESet wr b k L) ∧ Hid (∀ e, L e = true ↔ e ∈ es.take k) ∧ Hid (Below w.heap.size w wr)) (fun i _ => n - (intOf i).toNat)
  case atStart => exact ⟨0, _, by omega, rfl, Lib.hid hs0, Lib.hid (fun e => by simp), Lib.hid hb0⟩
  case round =>
    clear hs0 hb0
    obtain ⟨k, L, hk, rfl, HS, HM, HBW⟩ := hrel
    by_cases hlt : k < n
    · obtain ⟨b2, o2, rfl, hbb, k0, k1⟩ := RE.at_ (RS.below' h HBW.out hB) hlt
      have hkn : (k : Int) < n := by omega
      have hbr : b2 < wr.heap.size := by have := HBW.out.size; omega
      have hem := getD_memE (es := es) (j := k) (by rw [HL.out]; exact hlt)
      have hok := HG.out _ hem
      have HTK : Hid (∀ e, e ∈ es.take (k + 1) ↔ e ∈ es.take k ∨ e = es.getD k (0, 0)) := Lib.hid (fun x => by
        have hl : k < es.length := by rw [HL.out]; exact hlt
        have e : es.getD k (0, 0) = es[k] := by simp [List.getD, List.getElem?_eq_getElem hl]
        rw [List.take_succ_eq_append_getElem hl, List.mem_append, List.mem_singleton, e])
      clear hem
      generalize es.getD k (0, 0) = e at *
      obtain ⟨a, z⟩ := e
      dsimp only at k0 k1
      have hs2 := HS.out.alloc (.cells #[.int .i64 a, .int .i64 z] 37)
      obtain ⟨w6, hup, hs6, hg6⟩ := hs2.update (by unfold maxLen; omega) hok
      have hup' : (Instr.mapUpdate 47 (.map (some b)) (.agg #[.int .i64 a, .int .i64 z]) (.bool true)).run Try.prog (wr.alloc (.cells #[.int .i64 a, .int .i64 z] 37)) = .ok () w6 := hup
      have HS6 := Lib.hid hs6
      have HM6 : Hid (∀ e, (if e = (a, z) then true else L e) = true ↔ e ∈ es.take (k + 1)) := Lib.hid (fun e => by
        rw [HTK.out]
        by_cases he : e = (a, z)
        · simp [he]
        · simp [he, HM.out e])
      have HB6 := Lib.hid ((HBW.out.alloc HBW.out.size (.cells #[.int .i64 a, .int .i64 z] 37)).grown hg6 (by have := HBW.out.size; simp; omega) (fun j hj => by cases hj; exact hbw))
      clear hup hs2 hs6 hg6 HTK HS HM hok
      go_wp2
      go_roundw
      case rel => exact ⟨k + 1, _, by omega, by go_num, HS6, HM6, HB6⟩
      case measure => simp [intOf]; omega
    · obtain rfl : k = n := by omega
      have HLF : Hid (Lft es L) := Lib.hid (by
        have e : es.take k = es := List.take_of_length_le (by rw [HL.out]; omega)
        have hm := HM.out
        rw [e] at hm
        exact ⟨fun e _ h => (hm e).1 h, fun e he => (hm e).2 he.1⟩)
      clear HM
      go_wp2
      go_loopw [10] (fun _ wr => ∃ (L : Int × Int → Bool), Hid (ESet wr b k L) ∧ Hid (Lft es L) ∧ Hid (Below w.heap.size w wr)) (fun _ wr => cntL es (lookE b wr))
      case atStart => exact ⟨L, HS, HLF, HBW⟩
      case round =>
        clear HS HLF HBW
        obtain ⟨L, HS, HLF, HBW⟩ := hrel
        have HCN : Hid (cntL es (lookE b wr) = cntL es L) := Lib.hid (HS.out.cnt HG.out)
        obtain ⟨W, hW⟩ : ∃ W, W = wr := ⟨_, rfl⟩
        subst hW
        obtain ⟨D, hown, hD⟩ := HS.out
        have hszD := hown.size_le
        have HD := Lib.hid hD
        have hbW := hown.lt
        have hO0 := NSet.made W
        have hB1 := HBW.out.alloc HBW.out.size (.map #[] 0)
        have hown1 := hown.alloc (.map #[] 0)
        have hWz := HBW.out.size
        clear hD
        go_wp2_with (first
          | (at_range; refine wpList_range_own _ rfl _ 47 rfl 37 4 edge_keyed Try.underlying47 _ b k D rfl hown1 ?_; intro w0 hrg0 hg0 hs0)
          | fail)
        simp only [Act.put, List.setIfInBounds_toArray, List.set_cons_succ, List.set_cons_zero]
        rw [World.size_alloc] at hs0 hrg0
        have HO0 : Hid (NSet w0 W.heap.size 0 (fun _ => false)) := Lib.hid (NSet_grown hO0 hg0 (by simp))
        have HB0 := Lib.hid (hB1.grown hg0 (by simp; omega) (fun j hj => by cases hj))
        have HG0 := Lib.hid (Begs.start (L := L) (left := Maps.has D) (fun e he => (HD.out.at_ e he).1))
        clear hO0 hg0 hown1 hB1 hown
        rw [World.size_alloc]
        have hs0' : W.heap.size + 2 ≤ w0.heap.size := by omega
        clear hs0
        go_loopw [9] (fun _ wr => ∃ (left : Lit → Bool) (cnt nO : Nat) (O : Nat → Bool), wr.ranges Try.prog 37 (plainElem Try.prog 4) b (W.heap.size + 1) k D left cnt ∧ nO + cnt ≤ Maps.size D ∧ Hid (NSet wr W.heap.size nO O) ∧ Hid (Begs L left O) ∧ Hid (Below w.heap.size w wr) ∧ W.heap.size + 2 ≤ wr.heap.size)
          (fun _ wr => wr.rangeLeft b (W.heap.size + 1))
        case atStart => exact ⟨_, _, 0, _, hrg0, by omega, HO0, HG0, HB0, hs0'⟩
        case round =>
          clear HO0 HG0 HB0 hs0' hrg0
          obtain ⟨left, cnt, nO, O, hrg, hcs, HO, HBG, HB, hws⟩ := hrel
          go_wp2_with (first
            | (at_next; refine wpList_next_edges _ rfl _ rfl b (W.heap.size + 1) k D L HD.out _ _ rfl hrg ?_ ?_)
            | fail)
          · intro hc0 hl0
            have HOO := Lib.hid (HBG.out.done hl0)
            have hownR := hrg.owns
            clear hrg hcs HBG
            have hDm := HD.out
            obtain ⟨V, hV⟩ : ∃ V, V = wr := ⟨_, rfl⟩
            subst hV
            go_wp2_with (first
              | (at_range; refine wpList_range_own _ rfl _ 47 rfl 37 4 edge_keyed Try.underlying47 _ b k D rfl hownR ?_; intro w0 hrg0 hg0 hs0)
              | fail)
            simp only [Act.put, List.setIfInBounds_toArray, List.set_cons_succ, List.set_cons_zero]
            have HO0 : Hid (NSet w0 W.heap.size nO O) := Lib.hid (NSet_grown HO.out hg0 (by simp))
            have HB0 := Lib.hid (HB.out.grown hg0 HB.out.size (fun j hj => by cases hj))
            have HR0 := Lib.hid (Rnd.start (O := O) (left := Maps.has D) HLF.out (fun e he => (HD.out.at_ e he).1))
            have hVz : w.heap.size ≤ V.heap.size := HB.out.size
            clear HO hg0 hownR HB hs0 hDm
            go_loopw [10] (fun v wr => ∃ (left : Lit → Bool) (cnt : Nat) (D' : DataW Unit) (L' : Int × Int → Bool) (g : Bool), v = .bool g ∧ wr.ranges Try.prog 37 (plainElem Try.prog 4) b V.heap.size k D' left cnt ∧ Hid (EMap D' L') ∧ Hid (Rnd es L O left L' g) ∧ Hid (NSet wr W.heap.size nO O) ∧ Hid (Below w.heap.size w wr))
              (fun _ wr => wr.rangeLeft b V.heap.size)
            case atStart => exact ⟨_, _, D, L, false, rfl, hrg0, HD, HR0, HO0, HB0⟩
            case round =>
              clear HO0 HB0 HR0 hrg0
              obtain ⟨left, cnt, D', L', g, rfl, hrg, HD', HR, HO, HB⟩ := hrel
              go_wp2_with (first
                | (at_next; refine wpList_next_edges _ rfl _ rfl b V.heap.size k D' L' HD'.out _ _ rfl hrg ?_ ?_)
                | fail)
              · intro hc0 hl0
                have HS' : Hid (ESet wr b k L') := Lib.hid ⟨D', hrg.owns, HD'.out⟩
                cases g
                · have HRI := Lib.hid (Rnd.done HG.out HLF.out HOO.out HR.out hl0)
                  obtain ⟨m, hlen, hmn, hmp⟩ := HS'.out.len
                  clear hrg HR hl0
                  have HMP := Lib.hid hmp
                  clear hmp
                  by_cases hm0 : 0 < m
                  · have hmz : (0 : Int) < m := by omega
                    have d : decide ((0 : Int) < m) = true := by simpa using hmz
                    go_wp2
                    go_ret2
                    exact rings_ok HZ.out ⟨fun _ => HRI.out.1 (HMP.out.1 hm0), fun _ => (by simp)⟩ rfl HB.out
                  · obtain rfl : m = 0 := by omega
                    go_wp2
                    go_ret2
                    exact rings_ok HZ.out ⟨fun h => (by simp at h), fun h => absurd (HMP.out.2 (HRI.out.2 h)) (by omega)⟩ rfl HB.out
                · have HLF' := Lib.hid (HR.out.lft HLF.out)
                  have HLS := Lib.hid HR.out.less
                  clear hrg HR hl0
                  go_wp2
                  refine ⟨⟨L', HS', HLF', HB⟩, ?_⟩
                  rw [HCN.out, HS'.out.cnt HG.out]
                  have := HLS.out
                  rw [if_pos rfl] at this
                  omega
              · intro a z w1 cnt1 hxok hlx hLx hrg1 hlt1 hg1 hs1 hen
                have hs1' : wr.heap.size ≤ w1.heap.size := by omega
                have hen' : (Instr.entry (.pointer (some ⟨V.heap.size, 0, none⟩))).run Try.prog w1 = .ok (.tuple #[.agg #[.int .i64 a, .int .i64 z], .bool true]) w1 := hen
                have hO1 := (NSet_grown HO.out hg1 (by simp; omega)).alloc (.cells #[.int .i64 a, .int .i64 z] 37)
                have hlk := hO1.look (x := z) hxok.2
                have HO1 := Lib.hid hO1
                have hrg2 := hrg1.alloc (.cells #[.int .i64 a, .int .i64 z] 37)
                have HB2 := Lib.hid ((HB.out.grown hg1 HB.out.size (fun j hj => by cases hj; exact hVz)).alloc (by have := HB.out.size; omega) (.cells #[.int .i64 a, .int .i64 z] 37))
                have HXO := Lib.hid hxok
                have HXL := Lib.hid hLx
                clear hen hs1 hg1 hrg1 hxok hlx hLx
                cases hom : mkB O z with
                | true =>
                  rw [hom] at hlk
                  have HR2 := Lib.hid (HR.out.stay HXO.out (x := (a, z)) hom)
                  clear hom
                  go_wp2
                  go_roundw
                  case rel => exact ⟨_, cnt1, D', L', g, rfl, hrg2, HD', HR2, HO1, HB2⟩
                  case measure => rw [hrg2.left_eq, hrg.left_eq]; exact hlt1
                | false =>
                  rw [hom] at hlk
                  have HR2 := Lib.hid (HR.out.strike HG.out HLF.out HOO.out HXO.out (x := (a, z)) HXL.out hom)
                  have HD2 := Lib.hid (HD'.out.del HXO.out)
                  have hkey : keyOf Try.prog 37 (.agg #[.int .i64 a, .int .i64 z]) = some (KL (a, z)) := keyOf_ok (e := (a, z)) HXO.out
                  clear hom
                  obtain ⟨w5, cnt5, hrun5, hrg5, hc5, ht5⟩ := hrg2.drop edge_keyed Try.underlying47 hkey 0
                  rw [Maps.strike_twice] at hrg5
                  have hg5 := ht5.grown
                  have HO5 := Lib.hid (NSet_grown HO1.out hg5 (fun e => by injection e with e; omega))
                  have HB5 := Lib.hid (HB2.out.grown hg5 HB2.out.size (fun j hj => by cases hj; exact hbw))
                  clear hg5 ht5
                  go_wp2
                  go_roundw
                  case rel => exact ⟨_, cnt5, _, _, true, rfl, hrg5, HD2, HR2, HO5, HB5⟩
                  case measure => rw [hrg5.left_eq, hrg.left_eq]; omega
          · intro a z w1 cnt1 hxok hlx hLx hrg1 hlt1 hg1 hs1 hen
            have hs1' : wr.heap.size ≤ w1.heap.size := by omega
            obtain ⟨⟨ha1, ha2⟩, hz12⟩ := id hxok
            dsimp only at ha1 ha2
            obtain ⟨p, hp, rfl⟩ : ∃ p : Nat, p < 64 ∧ a = (p : Int) := ⟨a.toNat, by omega, by omega⟩
            clear ha1 ha2 hz12
            have hen' : (Instr.entry (.pointer (some ⟨W.heap.size + 1, 0, none⟩))).run Try.prog w1 = .ok (.tuple #[.agg #[.int .i64 p, .int .i64 z], .bool true]) w1 := hen
            have hO1 := (NSet_grown HO.out hg1 (by simp)).alloc (.cells #[.int .i64 p, .int .i64 z] 37)
            obtain ⟨w2, hup, hO2, hg2⟩ := hO1.update (by unfold maxLen; omega) hp
            have HO2 := Lib.hid hO2
            have hrg2 := (hrg1.alloc (.cells #[.int .i64 p, .int .i64 z] 37)).kept hg2 (fun e => by have := Option.some.inj e; omega) (fun e => by have := Option.some.inj e; omega)
            have HB2 := Lib.hid (((HB.out.grown hg1 HB.out.size (fun j hj => by cases hj; omega)).alloc (by have := HB.out.size; omega) (.cells #[.int .i64 p, .int .i64 z] 37)).grown hg2 (by have := HB.out.size; simp; omega) (fun j hj => by cases hj; exact hWz))
            have HBG2 := Lib.hid (HBG.out.next hp hxok hLx)
            have hs2 : W.heap.size + 2 ≤ w2.heap.size := by have := hg2.size; rw [World.size_alloc] at this; omega
            clear hen hs1 hO1 hO2 hg2 hg1 hrg1 HBG hLx hlx hxok
            go_wp2
            go_roundw
            case rel => exact ⟨_, cnt1, nO + 1, _, hrg2, by omega, HO2, HBG2, HB2, hs2⟩
            case measure => rw [hrg2.left_eq, hrg.left_eq]; exact hlt1
end Go.Proofs.Ytmfalafolpfhiaa
