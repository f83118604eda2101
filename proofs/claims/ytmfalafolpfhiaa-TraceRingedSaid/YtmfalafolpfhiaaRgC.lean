/- Contract of trace.Ring. -/
import Derived.Test.YtmfalafolpfhiaaRgB
import Derived.Test.YtmfalafolpfhiaaRrF
namespace Go.Proofs.Ytmfalafolpfhiaa
open Go.RowKit Go.Maps
set_option maxHeartbeats 400000
set_option linter.unusedVariables false
set_option linter.unusedSimpArgs false
open Classical in
noncomputable def ringErr (es : List (Int × Int)) : Int := if 4096 < es.length then 2 else if ∀ e ∈ es, OkE e then 0 else 1
/-- What trace.Ring answers. -/
def RingPost (w : World) (es : List (Int × Int)) (e : Ending) (w' : World) : Prop :=
  ∃ A n c, e = .returned (.tuple #[.slice A n c, .int .i64 (ringErr es)]) ∧ (0 < n ↔ ringErr es = 0 ∧ Ringed es) ∧ n ≤ 64 ∧ Below w.heap.size w w'
theorem ring_large {w w' : World} {es : List (Int × Int)} {e : Ending} (h : 4096 < es.length) (he : e = .returned (.tuple #[.slice none 0 0, .int .i64 2])) (hb : Below w.heap.size w w') : RingPost w es e w' := by
  have e1 : ringErr es = 2 := if_pos h
  refine ⟨none, 0, 0, by rw [he, e1], ?_, by omega, hb⟩
  rw [e1]; simp
theorem ring_bad {w w' : World} {es : List (Int × Int)} {e : Ending} (h : ¬ 4096 < es.length) (h2 : ¬ ∀ e ∈ es, OkE e) (he : e = .returned (.tuple #[.slice none 0 0, .int .i64 1])) (hb : Below w.heap.size w w') : RingPost w es e w' := by
  have e1 : ringErr es = 1 := by unfold ringErr; rw [if_neg h, if_neg h2]
  refine ⟨none, 0, 0, by rw [he, e1], ?_, by omega, hb⟩
  rw [e1]; simp
theorem ring_yes {w w' : World} {es : List (Int × Int)} {e : Ending} {A : Option Addr} {n c : Nat} (h : ¬ 4096 < es.length) (h2 : ∀ e ∈ es, OkE e) (hr : Ringed es) (hn : 0 < n) (hn2 : n ≤ 64) (he : e = .returned (.tuple #[.slice A n c, .int .i64 0])) (hb : Below w.heap.size w w') : RingPost w es e w' := by
  have e1 : ringErr es = 0 := by unfold ringErr; rw [if_neg h, if_pos h2]
  refine ⟨A, n, c, by rw [he, e1], ?_, hn2, hb⟩
  rw [e1]; simp [hr, hn]
theorem ring_no {w w' : World} {es : List (Int × Int)} {e : Ending} (h : ¬ 4096 < es.length) (h2 : ∀ e ∈ es, OkE e) (hr : ¬ Ringed es) (he : e = .returned (.tuple #[.slice none 0 0, .int .i64 0])) (hb : Below w.heap.size w w') : RingPost w es e w' := by
  have e1 : ringErr es = 0 := by unfold ringErr; rw [if_neg h, if_pos h2]
  refine ⟨none, 0, 0, by rw [he, e1], ?_, by omega, hb⟩
  rw [e1]; simp [hr]
theorem map_ne_row {w : World} {b nn B n : Nat} {F : Int → Option Int} {v : Value} {xs : List Value} (h : IntMap Try.prog w 3 3 b nn F) (hr : Row w B 3 1 v n xs) : v.ownBlock ≠ some b := by
  intro he
  obtain ⟨D, ⟨es, c, h1, _⟩, _⟩ := h
  rcases hr.2 with ⟨rfl, _⟩ | ⟨g', o, cap, cur, rfl, _, hh, _⟩
  · simp [Value.ownBlock] at he
  · have : g' = b := by simpa [Value.ownBlock] using he
    subst this
    rw [h1] at hh
    injection hh with hh
    cases hh
theorem IntMap_grown {w w' : World} {b nn : Nat} {F : Int → Option Int} (h : IntMap Try.prog w 3 3 b nn F) {row : Option Nat} (hg : w.grownBy w' row) (hr : row ≠ some b) : IntMap Try.prog w' 3 3 b nn F := h.fr (Fr.of_grown hg) (fun e => hr e)
theorem hop_node {es : List (Int × Int)} (hok : ∀ e ∈ es, OkE e) (h : ∀ j : Nat, j < 64 → ¬ Hop es (j : Int) (j : Int)) : ¬ Ringed es := by
  rintro ⟨s, hs⟩
  obtain ⟨a, b⟩ := hs.ok1 hok
  have e : ((s.toNat : Nat) : Int) = s := by omega
  exact h s.toNat (by omega) (by rw [e]; exact hs)
/-- The search's memory. -/
structure BM (w : World) (b : Nat) (F : Int → Option Int) (ws : List Int) (v : Value) (wr : World) : Prop where
  row : Row wr w.heap.size 3 1 v ws.length (ws.map (Value.int .i64))
  map : ∃ nn, nn ≤ ws.length ∧ IntMap Try.prog wr 3 3 b nn F
  bel : Below w.heap.size w wr
theorem BM.grow {w wr w' : World} {b : Nat} {F : Int → Option Int} {ws : List Int} {v : Value} (h : BM w b F ws v wr) (hb : Below wr.heap.size wr w') : BM w b F ws v w' := by
  obtain ⟨nn, h1, h2⟩ := h.map
  exact ⟨h.row.grow hb, ⟨nn, h1, h2.grow hb⟩, h.bel.trans (hb.mono h.bel.size)⟩
/-- .. and within the nodes behind one. -/
structure NM (w : World) (b : Nat) (F : Int → Option Int) (ws : List Int) (v v9 : Value) (nx : List Int) (wr : World) : Prop where
  bm : BM w b F ws v wr
  nxt : Row wr w.heap.size 3 1 v9 nx.length (nx.map (Value.int .i64))
  apart : ∀ g, v.ownBlock = some g → v9.ownBlock ≠ some g
theorem NM.push {w wr w9 : World} {b : Nat} {F : Int → Option Int} {ws : List Int} {v v' v9 : Value} {nx : List Int} {m : Int} (h1 : Row wr w.heap.size 3 1 v ws.length (ws.map (Value.int .i64))) (h2 : Row wr w.heap.size 3 1 v9 nx.length (nx.map (Value.int .i64)))
    (h3 : ∀ g, v.ownBlock = some g → v9.ownBlock ≠ some g) {nn : Nat} (h4 : IntMap Try.prog wr 3 3 b nn F) (h5 : nn ≤ ws.length + 1) (h6 : Below w.heap.size w wr) {X : Obj}
    (hg : (wr.alloc X).grownBy w9 v.ownBlock) (hr : Row w9 w.heap.size 3 1 v' (ws ++ [m]).length ((ws ++ [m]).map (Value.int .i64))) (ho : v'.ownBlock = v.ownBlock ∨ v'.ownBlock = some (wr.alloc X).heap.size) : NM w b F (ws ++ [m]) v' v9 nx w9 := by
  refine ⟨⟨hr, ⟨nn, by simpa using h5, IntMap_grown (h4.alloc X) hg (map_ne_row h4 h1)⟩, (h6.alloc h6.size X).grown hg (by have := h6.size; simp; omega) (fun k hk => (h1.lt k hk).1)⟩, (h2.alloc X).grown hg (fun k hk e => h3 k e hk), fun g hg' e => ?_⟩
  rcases ho with ho | ho
  · rw [ho] at hg'; exact h3 g hg' e
  · rw [ho] at hg'
    injection hg' with hg'
    have := (h2.lt g e).2
    rw [World.size_alloc] at hg'
    omega
set_option maxHeartbeats 4000000 in
set_option maxRecDepth 100000 in
theorem ring_any (A : Option Addr) (n c : Nat) (es : List (Int × Int)) (w : World) (B : Nat) (h : RE w B A n es) (hB : B ≤ w.heap.size) (hn : n ≤ 9223372036854775807) :
    Calls Try.prog 9 #[.slice A n c] w (RingPost w es) := by
  have HL := Lib.hid h.2
  obtain ⟨i0, hi, hz0, hz1, hz2⟩ := info_parts Try.infoI
  have hmk : ∀ W : World, (Instr.makeMap 44 none).run Try.prog W = .ok (.map (some W.heap.size)) (W.alloc (.map #[] 0)) := by intro W; rfl
  have hz : ∀ W : World, (zeroValue 3).run Try.prog W = .ok (.int .i64 0) W := by intro W; rfl
  by_cases hbig : 4096 < n
  · have HB := Lib.hid (show 4096 < es.length by rw [HL.out]; exact hbig)
    have hbz : (4096 : Int) < n := by omega
    go_enter Try.func9, Try.ntmps9
    go_wp2
    go_ret2
    exact ring_large HB.out rfl (Below.refl _ _)
  have HSM : Hid (¬ 4096 < es.length) := Lib.hid (by rw [HL.out]; exact hbig)
  have hbz : ¬ (4096 : Int) < n := by omega
  have hn2 : n ≤ 4096 := by omega
  clear hbig
  go_enter Try.func9, Try.ntmps9
  go_wp2
  go_loopw [21] (fun i wr => ∃ k : Nat, k ≤ n ∧ i = .int .i64 k ∧ Hid (∀ j, j < k → OkE (es.getD j (0, 0))) ∧ Below w.heap.size w wr) (fun i _ => n - (intOf i).toNat)
  case atStart => exact ⟨0, by omega, rfl, Lib.hid (fun j hj => by omega), Below.refl _ _⟩
  case round =>
    obtain ⟨k, hk, rfl, hok, hbw⟩ := hrel
    by_cases hlt : k < n
    · obtain ⟨b, o, rfl, hbb, k0, k1⟩ := RE.at_ (RS.below' h hbw hB) hlt
      have hkn : (k : Int) < n := by omega
      have hbr : b < wr.heap.size := by have := hbw.size; omega
      have HNX := Lib.hid (fun y => sl_next (p := fun j => OkE (es.getD j (0, 0))) hok.out y)
      have HBAD : Hid (¬ OkE (es.getD k (0, 0)) → ¬ (∀ e ∈ es, OkE e)) := Lib.hid (fun hx hall => hx (hall _ (getD_memE (by rw [HL.out]; exact hlt))))
      generalize es.getD k (0, 0) = e at *
      obtain ⟨a, z⟩ := e
      dsimp only at k0 k1
      have HW3 := Lib.hid (hbw.trans (((Below.refl _ wr).alloc (Nat.le_refl _) (.cells #[.int .i64 a, .int .i64 z] 37)).mono hbw.size))
      clear hbw hok
      by_cases h1 : a < 0
      · have d1 : decide (a < 0) = true := by simpa using h1
        have HE := Lib.hid (HBAD.out (fun hx => by have := hx.1.1; dsimp only at this; omega))
        clear h1
        go_wp2
        go_ret2
        exact ring_bad HSM.out HE.out rfl HW3.out
      have d1 : decide (a < 0) = false := by simpa using h1
      by_cases h2 : 63 < a
      · have d2 : decide (63 < a) = true := by simpa using h2
        have HE := Lib.hid (HBAD.out (fun hx => by have := hx.1.2; dsimp only at this; omega))
        clear h1 h2
        go_wp2
        go_ret2
        exact ring_bad HSM.out HE.out rfl HW3.out
      have d2 : decide (63 < a) = false := by simpa using h2
      by_cases h3 : z < 0
      · have d3 : decide (z < 0) = true := by simpa using h3
        have HE := Lib.hid (HBAD.out (fun hx => by have := hx.2.1; dsimp only at this; omega))
        clear h1 h2 h3
        go_wp2
        go_ret2
        exact ring_bad HSM.out HE.out rfl HW3.out
      have d3 : decide (z < 0) = false := by simpa using h3
      by_cases h4 : 63 < z
      · have d4 : decide (63 < z) = true := by simpa using h4
        have HE := Lib.hid (HBAD.out (fun hx => by have := hx.2.2; dsimp only at this; omega))
        clear h1 h2 h3 h4
        go_wp2
        go_ret2
        exact ring_bad HSM.out HE.out rfl HW3.out
      have d4 : decide (63 < z) = false := by simpa using h4
      have HN2 := Lib.hid (HNX.out ⟨⟨by show 0 ≤ a; omega, by show a ≤ 63; omega⟩, ⟨by show 0 ≤ z; omega, by show z ≤ 63; omega⟩⟩)
      clear h1 h2 h3 h4 HNX HBAD
      go_wp2
      go_roundw
      case rel => exact ⟨k + 1, by omega, by go_num, HN2, HW3.out⟩
      case measure => simp [intOf]; omega
    obtain rfl : k = n := by omega
    have HG : Hid (∀ e ∈ es, OkE e) := Lib.hid (all_at (p := OkE) (by rw [HL.out]; exact hok.out))
    have HBW := Lib.hid hbw
    clear hok hlt hbw
    go_wp2
    go_loopw [44] (fun i wr => ∃ s : Nat, s ≤ 64 ∧ i = .int .i64 s ∧ Hid (∀ j : Nat, j < s → ¬ Hop es (j : Int) (j : Int)) ∧ Hid (Below w.heap.size w wr)) (fun i _ => 64 - (intOf i).toNat)
    case atStart => exact ⟨0, by omega, rfl, Lib.hid (fun j hj => by omega), HBW⟩
    case round =>
      clear HBW
      obtain ⟨s, hs, rfl, hno, HBW⟩ := hrel
      by_cases hlt : s < 64
      · have hsz : (s : Int) < 64 := by omega
        obtain ⟨W, hW⟩ : ∃ W, W = wr := ⟨_, rfl⟩
        subst hW
        have hWz := HBW.out.size
        have HM0 := IntMap.made Try.prog W 3 3
        have HB0 : Hid (BM w W.heap.size (fun _ => none) [(s : Int)] (.slice (some ⟨W.heap.size + 1, 0, none⟩) 1 1) ((W.alloc (.map #[] 0)).alloc (.cells #[.int .i64 s] 3))) := Lib.hid ⟨by
            refine ⟨rfl, .inr ⟨W.heap.size + 1, 0, 1, #[.int .i64 s], rfl, by omega, ?_, Nat.le_refl _, by simp [maxLen], by simp, fun j u hu => by simpa using hu⟩⟩
            have := heap_alloc_new (W.alloc (.map #[] 0)) (.cells #[.int .i64 s] 3)
            rw [World.size_alloc] at this
            exact this, ⟨0, by simp, HM0.alloc _⟩, ((HBW.out.alloc hWz _).alloc (by simp; omega) _)⟩
        clear HM0
        go_wp2
        have hsok : OkN (s : Int) := ⟨by omega, by omega⟩
        go_loopw [8, 9] (fun v i wr => ∃ (q : Nat) (ws : List Int) (F : Int → Option Int), q ≤ ws.length ∧ i = .int .i64 q ∧ Hid (Bfs es (s : Int) F ws q) ∧ Hid (BM w W.heap.size F ws v wr)) (fun _ i _ => 64 - (intOf i).toNat)
        case atStart => exact ⟨0, _, _, by simp, rfl, Lib.hid (Bfs.start es s), HB0⟩
        case round =>
          clear HB0
          obtain ⟨q, ws, F, hq, rfl, HBF, HBM⟩ := hrel
          have hw64 := HBF.out.len hsok HG.out
          obtain ⟨A8, c8, rfl, hc8, hcm8⟩ := HBM.out.row.shape
          by_cases hql : q < ws.length
          · obtain ⟨b8, o8, rfl, hb8, hcell⟩ := (RD.of_row HBM.out.row).at_ hql
            have hqz : (q : Int) < ws.length := by omega
            have hsb := HBM.out.bel.size
            have HNX := Lib.hid (next_any A k c es (ws.getD q 0) wr B (RS.below' h HBM.out.bel hB) (by omega) hn2)
            have HA0 : Hid (∃ a0, a0 = ws.getD q 0) := Lib.hid ⟨_, rfl⟩
            obtain ⟨a0, ha0⟩ := HA0.out
            have HA := Lib.hid ha0
            rw [← ha0] at hcell HNX
            clear ha0 HA0
            obtain ⟨N, hN⟩ : ∃ N, N = ws.length := ⟨_, rfl⟩
            have HN := Lib.hid hN
            rw [← hN] at hql hqz hq hw64 hc8 ⊢
            clear hN
            go_wp2_with (go_at_call 16; refine HNX.out.mono ?_; rintro e w5 ⟨v9, nx, rfl, hr9, hb9, hmem, hnl⟩; obtain ⟨A9, c9, rfl, hc9, hcm9⟩ := hr9.shape)
            have HM9 := Lib.hid hmem
            have hn64 : nx.length ≤ 4096 := by have := HL.out; omega
            have hs9 := hb9.size
            have HB5 : Hid (BM w W.heap.size F ws (.slice (some ⟨b8, o8, none⟩) ws.length c8) w5) := Lib.hid (HBM.out.grow hb9)
            have HR9 := Lib.hid (hr9.base_le (show w.heap.size ≤ wr.heap.size from hsb))
            have HNM : Hid (NM w W.heap.size F ws (.slice (some ⟨b8, o8, none⟩) ws.length c8) (.slice A9 nx.length c9) nx w5) := Lib.hid ⟨HB5.out, HR9.out, fun g hg e => by
              have h1 := (HBM.out.row.lt g hg).2
              have h2 := (hr9.lt g e).1
              omega⟩
            have HQ0 : Hid (q < ws.length ∧ ws.getD q 0 = a0) := Lib.hid ⟨by rw [← HN.out]; exact hql, HA.out.symm⟩
            rw [← HN.out] at HNM
            clear hr9 hb9 hmem hnl HB5 HR9 HNX hcell HA
            go_loopw [8, 63] (fun v i wr => ∃ (j : Nat) (ws' : List Int) (F' : Int → Option Int), j ≤ nx.length ∧ i = .int .i64 j ∧ Hid (Bfs es (s : Int) F' ws' q) ∧ Hid (NM w W.heap.size F' ws' v (.slice A9 nx.length c9) nx wr) ∧ Hid (∀ i, i < j → ∃ u, F' (nx.getD i 0) = some u) ∧ Hid (q < ws'.length ∧ ws'.getD q 0 = a0)) (fun _ i _ => nx.length - (intOf i).toNat)
            case atStart => exact ⟨0, ws, F, by omega, rfl, HBF, HNM, Lib.hid (fun i hi => by omega), HQ0⟩
            case round =>
              clear HNM HQ0 HBF HBM
              obtain ⟨j, ws', F', hj, rfl, HBF, HNM, HDN, HQ⟩ := hrel
              obtain ⟨A8, c8, rfl, hc8, hcm8⟩ := HNM.out.bm.row.shape
              by_cases hjl : j < nx.length
              · have hjz : (j : Int) < nx.length := by omega
                obtain ⟨b9, o9, rfl, hb9, hc9'⟩ := (RD.of_row HNM.out.nxt).at_ hjl
                obtain ⟨b8, o8, rfl, hb8, hc8'⟩ := (RD.of_row HNM.out.bm.row).at_ HQ.out.1
                rw [HQ.out.2] at hc8'
                have hedge := (HM9.out (nx.getD j 0)).1 (getD_memI hjl)
                have HED := Lib.hid hedge
                have hmok := (HG.out _ hedge).2
                have haok := (HG.out _ hedge).1
                dsimp only at hmok haok
                obtain ⟨nn, hnn, hmap⟩ := HNM.out.bm.map
                have hlk := hmap.run_lookup_ok Try.underlying3 Try.underlying3 Try.underlying44 (hz _) (node_wf hmok)
                have hw64' := HBF.out.len hsok HG.out
                obtain ⟨w6, hup, hm6, hg6⟩ := hmap.update Try.underlying3 Try.underlying3 Try.underlying44 (by unfold maxLen; omega) (node_wf hmok) (node_wf haok)
                have HDX := Lib.hid (fun y => sl_next (p := fun i => ∃ u, F' (nx.getD i 0) = some u) HDN.out y)
                have HNC : Hid (∀ z, (∃ u, F' z = some u) → ∃ u, (fun y => if y = nx.getD j 0 then some a0 else F' y) z = some u) := Lib.hid (fun z ⟨u, hu⟩ => by
                  by_cases e : z = nx.getD j 0
                  · exact ⟨a0, if_pos e⟩
                  · exact ⟨u, by dsimp only; rw [if_neg e]; exact hu⟩)
                have HDN2 : Hid (∀ i, i < j + 1 → ∃ u, (fun y => if y = nx.getD j 0 then some a0 else F' y) (nx.getD i 0) = some u) := Lib.hid (sl_next (p := fun i => ∃ u, (fun y => if y = nx.getD j 0 then some a0 else F' y) (nx.getD i 0) = some u) (fun i hi => HNC.out _ (HDN.out i hi)) ⟨a0, if_pos rfl⟩)
                generalize nx.getD j 0 = m at *
                cases hF : F' m with
                | some u =>
                  rw [hF] at hlk
                  have HD2 := Lib.hid (HDX.out ⟨u, hF⟩)
                  clear HDX HNC HDN2 hup hm6 hg6 hmap
                  go_wp2
                  go_roundw
                  case rel => exact ⟨j + 1, ws', F', by omega, by go_num, HBF, HNM, HD2, HQ⟩
                  case measure => simp [intOf]; omega
                | none =>
                  rw [hF] at hlk
                  clear HDX HNC
                  have hrow6 := HNM.out.bm.row.grown hg6 (fun k hk e => map_ne_row hmap HNM.out.bm.row (by rw [hk, e]))
                  have hnxt6 := HNM.out.nxt.grown hg6 (fun k hk e => map_ne_row hmap HNM.out.nxt (by rw [hk, e]))
                  have hbel6 := HNM.out.bm.bel.grown hg6 HNM.out.bm.bel.size (fun k hk => by injection hk with hk; omega)
                  have HR6 := Lib.hid hrow6
                  have HX6 := Lib.hid hnxt6
                  have HB6 := Lib.hid hbel6
                  have HM6 := Lib.hid hm6
                  have hs6 := hbel6.size
                  by_cases hms : m = (s : Int)
                  · subst hms
                    have hm7 := hm6.alloc (.cells #[] 3)
                    have hl7 := hm7.run_lookup Try.underlying3 Try.underlying3 Try.underlying44 (hz _) (node_wf hmok)
                    rw [if_pos rfl] at hl7
                    have HRING : Hid (Ringed es) := Lib.hid ⟨_, HBF.out.hop HQ.out.1 (by rw [HQ.out.2]; exact HED.out)⟩
                    have HM7 := Lib.hid hm7
                    have HB7 := Lib.hid (hbel6.alloc hs6 (.cells #[] 3))
                    have HR7 : Hid (Row (w6.alloc (.cells #[] 3)) w.heap.size 3 1 (.slice (some ⟨w6.heap.size, 0, none⟩) 0 0) 0 []) := Lib.hid ⟨rfl, .inr ⟨w6.heap.size, 0, 0, #[], rfl, hs6, heap_alloc_new w6 _, Nat.le_refl _, by simp, by simp, fun j u hu => by simp at hu⟩⟩
                    have hql' : q < ws'.length := HQ.out.1
                    clear hm7 hm6 hrow6 hnxt6 hbel6 hmap hg6 HR6 HX6 HB6 HM6 HDN HDN2
                    obtain ⟨L, hL⟩ : ∃ L, L = ws'.length := ⟨_, rfl⟩
                    have HLL := Lib.hid hL
                    rw [← hL] at hw64' hc8 hql' hnn ⊢
                    clear hL
                    have hqL : (q : Int) < L := by omega
                    go_wp2
                    have HPH : Hid (∀ i, i < ws'.length → OkN (ws'.getD i 0)) := Lib.hid (fun i hi => HBF.out.ok hsok HG.out _ (getD_memI hi))
                    have HIX : Hid (∀ i, i < ws'.length → ws'.idxOf (ws'.getD i 0) = i) := Lib.hid (fun i hi => by
                      have := HBF.out.nd.idxOf_getElem i hi
                      simpa [List.getD, List.getElem?_eq_getElem hi] using this)
                    have HBK : Hid (∀ i, i < ws'.length → ws'.getD i 0 ≠ (s : Int) → ∃ i', i' < i ∧ F' (ws'.getD i 0) = some (ws'.getD i' 0)) := Lib.hid (fun i hi hne => by
                      refine HBF.out.back i ?_ hi
                      rcases Nat.eq_zero_or_pos i with h0 | h0
                      · subst h0
                        exact absurd (by simp [List.getD, HBF.out.head]) hne
                      · exact h0)
                    have HAQ := Lib.hid HQ.out.2
                    clear hl7 hup hlk hF HBF HNM HQ hedge HED
                    go_loopw [14, 15] (fun v a wr => ∃ (i r : Nat) (xs : List Int), i < L ∧ r + i ≤ q ∧ Hid (a = .int .i64 (ws'.getD i 0)) ∧ Row wr w.heap.size 3 1 v r (xs.map (Value.int .i64)) ∧ Hid (IntMap Try.prog wr 3 3 W.heap.size (nn + 1) (fun z => if z = (s : Int) then some a0 else F' z)) ∧ Hid (Below w.heap.size w wr)) (fun _ a _ => ws'.idxOf (intOf a))
                    case atStart => exact ⟨q, 0, [], hql', by omega, Lib.hid (by rw [HAQ.out]), HR7.out, HM7, HB7⟩
                    case round =>
                      clear HM7 HB7 HR7 HAQ
                      obtain ⟨i, r, xs, hiL, hri, HA, hrow, HMP, HBL⟩ := hrel
                      have ha := HA.out
                      have HOK := Lib.hid (HPH.out i (by rw [← HLL.out]; exact hiL))
                      have HII := Lib.hid (HIX.out i (by rw [← HLL.out]; exact hiL))
                      have HBI := Lib.hid (HBK.out i (by rw [← HLL.out]; exact hiL))
                      subst ha
                      clear HA
                      obtain ⟨p, hp⟩ : ∃ p, p = ws'.getD i 0 := ⟨_, rfl⟩
                      rw [← hp] at HOK HII HBI ⊢
                      clear hp
                      have hbz := HBL.out.size
                      obtain ⟨A7, c7, rfl, hc7, hcm7⟩ := hrow.shape
                      have hrA := hrow.alloc (.cells #[.int .i64 p] 3)
                      have HMA := Lib.hid (HMP.out.alloc (.cells #[.int .i64 p] 3))
                      have HNE := Lib.hid (map_ne_row HMA.out hrA)
                      have HBA := Lib.hid (HBL.out.alloc hbz (.cells #[.int .i64 p] 3))
                      clear hrow HMP
                      by_cases hps : p = (s : Int)
                      · have d : (p == (s : Int)) = true := by simpa using hps
                        clear hps
                        go_wp2_with (at_builtin; refine wpList_append_row _ rfl (.tmp 90) (.tmp 92) 23 rfl w.heap.size 3 i0 (.int .i64 0) 1 8 Try.underlying23 hi hz0 hz1 hz2 rfl (by decide) (.slice A7 r c7) r (xs.map (Value.int .i64)) rfl hrA (wr.heap.size + 1) (some ⟨wr.heap.size, 0, none⟩) 1 1 [.int .i64 p] rfl (reads_one wr _ 3) (by simp [Value.oneCell']) (by unfold maxLen; omega) (by omega) (by simp; omega) ?_)
                        intro A8 c8 w8 hr8 hg8 ho8
                        have HB8 := Lib.hid (HBA.out.grown hg8 HBA.out.size (fun k hk => (hrA.lt k hk).1))
                        have hr8' : Row w8 w.heap.size 3 1 (.slice A8 (r + 1) c8) (r + 1) ((xs ++ [p]).map (Value.int .i64)) := by simpa using hr8
                        have HRV := Lib.hid (reverse17 A8 (r + 1) c8 w.heap.size (xs ++ [p]) w8 hr8' (by omega))
                        have hlt8 := hr8'.lt
                        clear hr8 hr8' hg8 ho8 hrA
                        go_wp2_with (go_at_call 17; refine HRV.out.mono ?_; rintro e w10 ⟨rfl, hf10⟩)
                        go_ret2
                        exact ring_yes HSM.out HG.out HRING.out (by omega) (by omega) rfl (HB8.out.trans (hf10.below (B := w.heap.size) HB8.out.size (fun k hk => (hlt8 k hk).1)))
                      · have d : (p == (s : Int)) = false := by simpa using hps
                        obtain ⟨i', hi', hF'⟩ := HBI.out hps
                        have HFV : Hid ((if p = (s : Int) then some a0 else F' p) = some (ws'.getD i' 0)) := Lib.hid (by rw [if_neg hps]; exact hF')
                        have HI2 := Lib.hid (HIX.out i' (by rw [← HLL.out]; omega))
                        clear hps hF'
                        go_wp2_with (at_builtin; refine wpList_append_row _ rfl (.tmp 90) (.tmp 92) 23 rfl w.heap.size 3 i0 (.int .i64 0) 1 8 Try.underlying23 hi hz0 hz1 hz2 rfl (by decide) (.slice A7 r c7) r (xs.map (Value.int .i64)) rfl hrA (wr.heap.size + 1) (some ⟨wr.heap.size, 0, none⟩) 1 1 [.int .i64 p] rfl (reads_one wr _ 3) (by simp [Value.oneCell']) (by unfold maxLen; omega) (by omega) (by simp; omega) ?_)
                        intro A8 c8 w8 hr8 hg8 ho8
                        have HB8 := Lib.hid (HBA.out.grown hg8 HBA.out.size (fun k hk => (hrA.lt k hk).1))
                        have hr8' : Row w8 w.heap.size 3 1 (.slice A8 (r + 1) c8) (r + 1) ((xs ++ [p]).map (Value.int .i64)) := by simpa using hr8
                        have hm8 := IntMap_grown HMA.out hg8 HNE.out
                        have hlk8 := hm8.run_lookup Try.underlying3 Try.underlying3 Try.underlying44 (hz _) (node_wf HOK.out)
                        rw [HFV.out] at hlk8
                        have HM8 := Lib.hid hm8
                        have HR8 := Lib.hid hr8'
                        clear hr8 hr8' hg8 ho8 hrA hm8
                        dsimp only [Option.getD_some] at hlk8
                        obtain ⟨p', hp'⟩ : ∃ p', p' = ws'.getD i' 0 := ⟨_, rfl⟩
                        have HP' := Lib.hid hp'
                        rw [← hp'] at hlk8
                        clear hp'
                        go_wp2
                        go_roundw
                        case rel => exact ⟨i', r + 1, xs ++ [p], by omega, by omega, Lib.hid (by rw [HP'.out]), HR8.out, HM8, HB8⟩
                        case measure => rw [intOf, intOf, HII.out, HP'.out, HI2.out]; exact hi'
                  · have d : (m == (s : Int)) = false := by simpa using hms
                    have HBF2 := Lib.hid (HBF.out.add HQ.out.1 (by rw [HQ.out.2]; exact HED.out) hF hms)
                    rw [HQ.out.2] at HBF2
                    have HAP := Lib.hid HNM.out.apart
                    have hrA := hrow6.alloc (.cells #[.int .i64 m] 3)
                    have hql' : q < ws'.length := HQ.out.1
                    clear hms HNM hrow6 hnxt6 hbel6 hm6 hmap HBF hF
                    obtain ⟨L, hL⟩ : ∃ L, L = ws'.length := ⟨_, rfl⟩
                    have HLL := Lib.hid hL
                    rw [← hL] at hw64' hc8 hrA hql' hnn ⊢
                    clear hL
                    have hqL : (q : Int) < L := by omega
                    go_wp2_with (at_builtin; refine wpList_append_row _ rfl (.tmp 100) (.tmp 102) 23 rfl w.heap.size 3 i0 (.int .i64 0) 1 8 Try.underlying23 hi hz0 hz1 hz2 rfl (by decide) (.slice (some ⟨b8, o8, none⟩) L c8) L (ws'.map (Value.int .i64)) rfl hrA (w6.heap.size + 1) (some ⟨w6.heap.size, 0, none⟩) 1 1 [.int .i64 m] rfl (reads_one w6 _ 3) (by simp [Value.oneCell']) (by unfold maxLen; omega) (by omega) (by simp; omega) ?_)
                    intro A7 c7 w7 hr7 hg7 ho7
                    have hl7 : (ws' ++ [m]).length = L + 1 := by rw [List.length_append, ← HLL.out]; rfl
                    have hr7' : Row w7 w.heap.size 3 1 (.slice A7 (ws' ++ [m]).length c7) (ws' ++ [m]).length ((ws' ++ [m]).map (Value.int .i64)) := by
                      rw [hl7]; simpa using hr7
                    have HNM7 : Hid (NM w W.heap.size (fun z => if z = m then some a0 else F' z) (ws' ++ [m]) (.slice A7 (ws' ++ [m]).length c7) (.slice (some ⟨b9, o9, none⟩) nx.length c9) nx w7) := Lib.hid
                      (NM.push HR6.out HX6.out HAP.out HM6.out (by rw [← HLL.out]; omega) HB6.out (by rw [← HLL.out]; exact hg7) hr7' (by rw [← HLL.out, hl7, World.size_alloc]; exact ho7))
                    rw [hl7] at HNM7
                    have HQ7 : Hid (q < (ws' ++ [m]).length ∧ (ws' ++ [m]).getD q 0 = a0) := Lib.hid ⟨by rw [hl7]; omega, by
                      have := HQ.out.2
                      rw [← this]
                      simp [List.getD, List.getElem?_append_left HQ.out.1]⟩
                    clear hr7 hr7' hg7 ho7 hl7 hrA
                    go_wp2
                    go_roundw
                    case rel => exact ⟨j + 1, ws' ++ [m], _, by omega, by go_num, HBF2, HNM7, HDN2, HQ7⟩
                    case measure => simp [intOf]; omega
              · obtain rfl : j = nx.length := by omega
                have HBS : Hid (Bfs es (s : Int) F' ws' (q + 1)) := Lib.hid (HBF.out.step (fun m hm => by
                  rw [HQ.out.2] at hm
                  obtain ⟨i, hi, e⟩ := List.getElem_of_mem ((HM9.out m).2 hm)
                  obtain ⟨u, hu⟩ := HDN.out i hi
                  have : nx.getD i 0 = m := by simp [List.getD, List.getElem?_eq_getElem hi, e]
                  rw [this] at hu
                  exact ⟨u, hu⟩))
                have HBM2 := Lib.hid HNM.out.bm
                have hq2 := HQ.out.1
                have hw64' := HBF.out.len hsok HG.out
                go_wp2
                exact ⟨⟨q + 1, ws', F', by omega, by go_num, HBS, HBM2⟩, by simp [intOf]; omega⟩
          · obtain rfl : q = ws.length := by omega
            have HNH := Lib.hid HBF.out.no
            have hqz : ¬ (ws.length : Int) < ws.length := by omega
            go_wp2
            go_roundw
            case rel => exact ⟨s + 1, by omega, by go_num, Lib.hid (sl_next (p := fun j : Nat => ¬ Hop es (j : Int) (j : Int)) hno.out HNH.out), Lib.hid HBM.out.bel⟩
            case measure => simp [intOf]; omega
      · obtain rfl : s = 64 := by omega
        have HNO : Hid (¬ Ringed es) := Lib.hid (hop_node HG.out hno.out)
        go_wp2
        go_ret2
        exact ring_no HSM.out HG.out HNO.out rfl HBW.out
end Go.Proofs.Ytmfalafolpfhiaa
