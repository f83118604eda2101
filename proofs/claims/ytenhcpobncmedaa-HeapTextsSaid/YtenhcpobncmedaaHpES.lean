/- A heap with keys of type ByteArray: contract of swap. -/
import Derived.Test.YtenhcpobncmedaaHpDS
namespace Go.Proofs.Ytenhcpobncmedaa.HS
open Go.RowKit
set_option maxHeartbeats 400000
set_option linter.unusedVariables false
set_option linter.unusedSimpArgs false
structure Raw (w : World) (B g b : Nat) (vi vk : Value) (n : Nat) (is ks : List Value) (f : Int → Option Int) (cnt : Nat) : Prop where
  blk : Blk w g #[vi, vk, .map (some b)] 139
  ri : Row w B 3 1 vi n is
  rk : Row w B 9 1 vk n ks
  map : IntMap Try.prog w 3 3 b cnt f
  ne : ∀ k, vi.ownBlock = some k → vk.ownBlock ≠ some k
  low : B ≤ g
  lowb : B ≤ b
theorem St.raw {w : World} {B g b : Nat} {vi vk : Value} {ps : List (Int × ByteArray)} {f : Int → Option Int} {cnt : Nat} (h : St w B g b vi vk ps f cnt) : Raw w B g b vi vk ps.length (ps.map iv) (ps.map kv) f cnt := ⟨h.blk, h.ri, h.rk, h.map, h.ne, h.low, h.lowb⟩
namespace Raw
variable {w w' : World} {B g b n : Nat} {vi vk : Value} {is ks : List Value} {f : Int → Option Int} {cnt : Nat}
theorem drew (h : Raw w B g b vi vk n is ks f cnt) : Raw w.drew B g b vi vk n is ks f cnt := ⟨h.blk, h.ri, h.rk, h.map, h.ne, h.low, h.lowb⟩
theorem drewN (h : Raw w B g b vi vk n is ks f cnt) (m : Nat) : Raw (w.drewN m) B g b vi vk n is ks f cnt := ⟨h.blk, h.ri, h.rk, h.map, h.ne, h.low, h.lowb⟩
theorem st {ps : List (Int × ByteArray)} (h : Raw w B g b vi vk n is ks f cnt) (h1 : ps.length = n) (h2 : ps.map iv = is) (h3 : ps.map kv = ks) : St w B g b vi vk ps f cnt := by
  subst h1; subst h2; subst h3
  exact ⟨h.blk, h.ri, h.rk, h.map, h.ne, h.low, h.lowb⟩
theorem setI {q o c : Nat} (h : Raw w B g b (.slice (some ⟨q, o, none⟩) n c) vk n is ks f cnt) {j : Nat} (hj : j < n) (u : Value) : Raw (w.setCell ⟨q, o + j, none⟩ u) B g b (.slice (some ⟨q, o, none⟩) n c) vk n (is.set j u) ks f cnt := by
  have hf : Fr (fun k => k = q) w (w.setCell ⟨q, o + j, none⟩ u) := (Fr.refl (fun k => k = q) w).setCell (p := ⟨q, o + j, none⟩) (fun _ => rfl) u
  have hq : (Value.slice (some ⟨q, o, none⟩) n c).ownBlock = some q := rfl
  exact ⟨h.blk.fr hf (fun e => wa_row_blk h.ri h.blk (by decide) (by rw [hq, e])), h.ri.stored (by omega) u, h.rk.fr hf (fun k hk e => h.ne q hq (by rw [hk, e])), h.map.fr hf (fun e => h.map.row_ne h.ri (by rw [hq, e])), h.ne, h.low, h.lowb⟩
theorem setK {q o c : Nat} (h : Raw w B g b vi (.slice (some ⟨q, o, none⟩) n c) n is ks f cnt) {j : Nat} (hj : j < n) (u : Value) : Raw (w.setCell ⟨q, o + j, none⟩ u) B g b vi (.slice (some ⟨q, o, none⟩) n c) n is (ks.set j u) f cnt := by
  have hf : Fr (fun k => k = q) w (w.setCell ⟨q, o + j, none⟩ u) := (Fr.refl (fun k => k = q) w).setCell (p := ⟨q, o + j, none⟩) (fun _ => rfl) u
  have hq : (Value.slice (some ⟨q, o, none⟩) n c).ownBlock = some q := rfl
  exact ⟨h.blk.fr hf (fun e => wa_row_blk h.rk h.blk (by decide) (by rw [hq, e])), h.ri.fr hf (fun k hk e => h.ne k hk (by rw [hq, e])), h.rk.stored (by omega) u, h.map.fr hf (fun e => h.map.row_ne h.rk (by rw [hq, e])), h.ne, h.low, h.lowb⟩
theorem setM {f' : Int → Option Int} {cnt' : Nat} (h : Raw w B g b vi vk n is ks f cnt) (hm : IntMap Try.prog w' 3 3 b cnt' f') (hg : w.grownBy w' (some b)) : Raw w' B g b vi vk n is ks f' cnt' := by
  have hf : Fr (fun k => k = b) w w' := (Fr.refl _ w).grown hg (fun k e _ => by injection e with e; exact e.symm)
  exact ⟨h.blk.fr hf (h.map.blk_ne h.blk), h.ri.fr hf (fun k hk e => h.map.row_ne h.ri (by rw [hk, e])), h.rk.fr hf (fun k hk e => h.map.row_ne h.rk (by rw [hk, e])), hm, h.ne, h.low, h.lowb⟩
end Raw
theorem setCell_there {w : World} {p q : Addr} {x v : Value} (h : w.cell? q = some v) : ∃ v', (w.setCell p x).cell? q = some v' := by
  by_cases e : p = q
  · subst e; exact ⟨x, World.cell?_setCell_same w p x h⟩
  · exact ⟨v, (World.cell?_setCell_other w p q x e).trans h⟩
theorem zero3 (u : World) : (zeroValue 3).run Try.prog u = .ok (.int .i64 0) u := wa_zero3 u
theorem raw_cells {w : World} {B e n q o c : Nat} {l : List Value} (h : Row w B e 1 (.slice (some ⟨q, o, none⟩) n c) n l) : (∀ (j : Nat) (u : Value), l[j]? = some u → w.cell? ⟨q, o + j, none⟩ = some u) ∧ (∀ j, w.frozen? ⟨q, j, none⟩ = false) ∧ q < w.heap.size := by
  rcases h.2 with ⟨e1, h0⟩ | ⟨q', o', cap, cur, e1, hb, hg, hnc, hcm, hs, hx⟩
  · injection e1 with e1; cases e1
  · injection e1 with e1
    injection e1 with e1
    injection e1 with e1 e2
    subst e1; subst e2
    refine ⟨fun j u hu => ?_, fun j => Blk.free (w := w) (cs := cur) (t := e) hg j, lt_blk hg⟩
    have := cell_of_row w q (o + j) cur e (0, 0) hg
    rw [this]
    exact hx j u hu
def SwapPost (w : World) (B g b : Nat) (vi vk : Value) (ps : List (Int × ByteArray)) (f : Int → Option Int) (cnt i j : Nat) (e : Ending) (w' : World) : Prop :=
  e = .returned (.tuple #[]) ∧ St w' B g b vi vk (swl zp ps i j) (upd1 (upd1 f (ps.getD j zp).1 i) (ps.getD i zp).1 j) cnt ∧ Fr (F g b vi vk) w w'
theorem int_wf_nat (i : Nat) (h : i < 4611686018427387904) : (Lit.int .i64 (i : Int)).wf = true := by simp [Lit.wf, IntKind.min, IntKind.max, IntKind.signed, IntKind.bits]; omega
set_option maxHeartbeats 4000000 in
set_option maxRecDepth 100000 in
theorem swap152 (g b : Nat) (vi vk : Value) (ps : List (Int × ByteArray)) (f : Int → Option Int) (cnt : Nat) (i j : Nat) (w : World) (B : Nat) (h : St w B g b vi vk ps f cnt) (hi : i < ps.length) (hj : j < ps.length)
    (hp : Pos zp ps f) (hl : ps.length < 4611686018427387904) (hcnt : cnt < maxLen) (hw : ∀ p ∈ ps, (Lit.int .i64 p.1).wf = true) :
    Calls Try.prog 152 #[.pointer (some ⟨g, 0, none⟩), .int .i64 i, .int .i64 j] w (SwapPost w B g b vi vk ps f cnt i j) := by
  obtain ⟨A, c, A', c', rfl, hc1, hc2, rfl, hc3, hc4⟩ := h.shapes
  obtain ⟨qi, oi, rfl, _, hql, hci, hfi⟩ := row_cells (z := zp) h.ri (by omega)
  obtain ⟨qk, ok, rfl, _, hqk, hck, hfk⟩ := row_cells (z := zp) h.rk (by omega)
  obtain ⟨⟨xi, yi⟩, hpi⟩ : ∃ p, ps.getD i zp = p := ⟨_, rfl⟩
  obtain ⟨⟨xj, yj⟩, hpj⟩ : ∃ p, ps.getD j zp = p := ⟨_, rfl⟩
  have ii : w.cell? ⟨qi, oi + i, none⟩ = some (.int .i64 xi) := by have := hci i hi; rw [hpi] at this; exact this
  have ij : w.cell? ⟨qi, oi + j, none⟩ = some (.int .i64 xj) := by have := hci j hj; rw [hpj] at this; exact this
  have ki : w.cell? ⟨qk, ok + i, none⟩ = some (.string yi) := by have := hck i hi; rw [hpi] at this; exact this
  have kj : w.cell? ⟨qk, ok + j, none⟩ = some (.string yj) := by have := hck j hj; rw [hpj] at this; exact this
  have b0 := h.blk.cell 0
  have b1 := h.blk.cell 1
  have b2 := h.blk.cell 2
  have bl := h.blk.lt
  have gi : ¬ qi = g := fun e => h.ig (by rw [← e]; rfl)
  have gk : ¬ qk = g := fun e => h.kg (by rw [← e]; rfl)
  have ik : ¬ qi = qk := fun e => h.ne qi rfl (by rw [e]; rfl)
  have R0 := h.raw
  have R1 := ((R0.setI hi (.int .i64 xj)).setI hj (.int .i64 xi)).drew
  obtain ⟨v', hv'⟩ := setCell_there (w := w) (p := ⟨qi, oi + i, none⟩) (x := .int .i64 xj) ij
  have hfr1 : Fr (F g b (.slice (some ⟨qi, oi, none⟩) ps.length c) (.slice (some ⟨qk, ok, none⟩) ps.length c')) w ((w.setCell ⟨qi, oi + i, none⟩ (.int .i64 xj)).setCell ⟨qi, oi + j, none⟩ (.int .i64 xi)).drew :=
    (((Fr.refl _ w).setCell (p := ⟨qi, oi + i, none⟩) (fun _ => .inr (.inr (.inl rfl))) _).setCell (p := ⟨qi, oi + j, none⟩) (fun _ => .inr (.inr (.inl rfl))) _).drew
  have HSW : Hid (∀ w9 f9, Raw w9 B g b (.slice (some ⟨qi, oi, none⟩) ps.length c) (.slice (some ⟨qk, ok, none⟩) ps.length c') ps.length (((ps.map iv).set i (.int .i64 xj)).set j (.int .i64 xi)) (((ps.map kv).set i (.string yj)).set j (.string yi)) f9 cnt → St w9 B g b (.slice (some ⟨qi, oi, none⟩) ps.length c) (.slice (some ⟨qk, ok, none⟩) ps.length c') (swl zp ps i j) f9 cnt) := Lib.hid fun w9 f9 h => h.st swl_len (by rw [swl_map, hpi, hpj]; rfl) (by rw [swl_map, hpi, hpj]; rfl)
  have hxi : (Lit.int .i64 xi).wf = true := by have := hw _ (List.getElem_mem hi); rw [← getD_of (z := zp) hi, hpi] at this; exact this
  have hxj : (Lit.int .i64 xj).wf = true := by have := hw _ (List.getElem_mem hj); rw [← getD_of (z := zp) hj, hpj] at this; exact this
  have hfi9 : (f xi).isSome = true := by have := hp.at_ i hi; rw [hpi] at this; rw [this]; rfl
  have hfj9 : (f xj).isSome = true := by have := hp.at_ j hj; rw [hpj] at this; rw [this]; rfl
  have HPF : Hid (upd1 (upd1 f (ps.getD j zp).1 i) (ps.getD i zp).1 j = upd1 (upd1 f xj i) xi j) := Lib.hid (by rw [hpi, hpj])
  have HKI : Hid ((ps.map kv)[i]? = some (.string yi)) := Lib.hid (by rw [List.getElem?_map, List.getElem?_eq_getElem hi, ← getD_of (z := zp) hi, hpi]; rfl)
  have HKJ : Hid ((ps.map kv)[j]? = some (.string yj)) := Lib.hid (by rw [List.getElem?_map, List.getElem?_eq_getElem hj, ← getD_of (z := zp) hj, hpj]; rfl)
  have HIJ : Hid ((((ps.map iv).set i (.int .i64 xj)).set j (.int .i64 xi))[j]? = some (.int .i64 xi)) := Lib.hid (by simp [List.getElem?_set, hj])
  have HII : Hid ((((ps.map iv).set i (.int .i64 xj)).set j (.int .i64 xi))[i]? = some (.int .i64 xj)) := Lib.hid (by
    by_cases e : j = i
    · subst e
      rw [hpi] at hpj
      injection hpj with e1 e2
      subst e1
      simp [List.getElem?_set, hi]
    · simp [List.getElem?_set, hi, e])
  have fi := hfi (oi + i)
  have fj := hfi (oi + j)
  have hil : (i : Int) < (ps.length : Nat) := by omega
  have hjl : (j : Int) < (ps.length : Nat) := by omega
  have hiw := int_wf_nat i (by omega)
  have hjw := int_wf_nat j (by omega)
  clear h hp hw hpi hpj hci hck hfi hfk
  have HR1 := Lib.hid R1
  have HF1 := Lib.hid hfr1
  have HI := Lib.hid hi
  have HJ := Lib.hid hj
  clear R0 R1 hfr1 hi hj
  go_enter Try.func152, Try.ntmps152
  go_wp2_with fail
  go_region
  generalize ((w.setCell ⟨qi, oi + i, none⟩ (.int .i64 xj)).setCell ⟨qi, oi + j, none⟩ (.int .i64 xi)).drew = W1 at *
  clear ii ij ki kj b0 b1 b2 bl fi fj hv' v'
  as_aux_lemma =>
    have R1 := HR1.out
    obtain ⟨kc, kf, kl⟩ := raw_cells R1.rk
    have ki := kc i _ HKI.out
    have kj := kc j _ HKJ.out
    have kfi := kf (ok + i)
    have kfj := kf (ok + j)
    have b0 := R1.blk.cell 0
    have b1 := R1.blk.cell 1
    have b2 := R1.blk.cell 2
    have bl := R1.blk.lt
    obtain ⟨v2, hv2⟩ := setCell_there (w := W1) (p := ⟨qk, ok + i, none⟩) (x := .string yj) kj
    have HR2 := Lib.hid ((R1.setK HI.out (.string yj)).setK HJ.out (.string yi)).drew
    have HF2 : Hid (Fr (F g b (.slice (some ⟨qi, oi, none⟩) ps.length c) (.slice (some ⟨qk, ok, none⟩) ps.length c')) w ((W1.setCell ⟨qk, ok + i, none⟩ (.string yj)).setCell ⟨qk, ok + j, none⟩ (.string yi)).drew) := Lib.hid ((HF1.out.setCell (p := ⟨qk, ok + i, none⟩) (fun _ => .inr (.inr (.inr rfl))) _).setCell (p := ⟨qk, ok + j, none⟩) (fun _ => .inr (.inr (.inr rfl))) _).drew
    clear R1 HR1 HF1 kc kf
    go_wp2_with fail
    go_region
    generalize ((W1.setCell ⟨qk, ok + i, none⟩ (.string yj)).setCell ⟨qk, ok + j, none⟩ (.string yi)).drew = W2 at *
    clear ki kj kfi kfj b0 b1 b2 bl hv2 v2
    as_aux_lemma =>
      have R2 := HR2.out
      obtain ⟨m1, s1, x1, x2, e1, e2, hm2, hg2⟩ := R2.drew.map.entry (t := 78) Try.underlying3 Try.underlying3 Try.underlying78 zero3 hcnt hxj hiw hfj9
      have R3 := R2.drew.setM hm2 hg2
      obtain ⟨m3, s3, x3, x4, e3, e4, hm4, hg4⟩ := R3.map.entry (t := 78) Try.underlying3 Try.underlying3 Try.underlying78 zero3 hcnt hxi hjw (by split <;> simp [hfi9])
      have R4 := R3.setM hm4 hg4
      obtain ⟨ic, _, il⟩ := raw_cells R2.ri
      have ii := ic i _ HII.out
      have ij := ic j _ HIJ.out
      have b0 := R2.blk.cell 0
      have b1 := R2.blk.cell 1
      have b2 := R2.blk.cell 2
      have bl := R2.blk.lt
      have HFIN : Hid (SwapPost w B g b (.slice (some ⟨qi, oi, none⟩) ps.length c) (.slice (some ⟨qk, ok, none⟩) ps.length c') ps f cnt i j (.returned (.tuple #[])) x4) := Lib.hid (by
        refine ⟨rfl, ?_, ?_⟩
        · rw [HPF.out]
          exact HSW.out _ _ R4
        · exact (HF2.out.drew.grown hg2 (fun k e _ => .inr (.inl (by injection e with e; exact e.symm)))).grown hg4 (fun k e _ => .inr (.inl (by injection e with e; exact e.symm))))
      clear R2 R3 R4 hm2 hg2 hm4 hg4 ic HR2 HF2
      go_wp2_with fail
      go_region
      go_wp2
      go_end0
      exact HFIN.out
end Go.Proofs.Ytenhcpobncmedaa.HS
