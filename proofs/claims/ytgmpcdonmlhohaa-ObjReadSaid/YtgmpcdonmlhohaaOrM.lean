/- Plain facts for ringref4.ObjOf: what is read, the four slices as they stand at the end. -/
import Derived.Test.YtgmpcdonmlhohaaOrK
namespace Go.Proofs.Ytgmpcdonmlhohaa
open Go.RowKit
set_option maxHeartbeats 400000
set_option linter.unusedVariables false
set_option linter.unusedSimpArgs false
theorem manyR_stop {α : Type} (f : Rst → α × Rst) : (manyR f none).2 = none := by
  unfold manyR
  rw [show halfR none = (0, none) from rfl, loopR_none]
theorem half_stop {s s' : Rst} {x : Int} (h : halfR s = (x, s')) (hn : s' ≠ none) : s ≠ none := by
  rintro rfl
  exact hn (congrArg Prod.snd h).symm
theorem bytes_stop {s s' : Rst} {k : Int} (h : (bytesR k s).2 = s') (hn : s' ≠ none) : s ≠ none := by
  rintro rfl
  exact hn h.symm
/-- What a loop has read: exact, as long as there was enough. -/
def MR {α : Type} (f : Rst → α × Rst) (s s' : Rst) (acc : List α) : Prop := (manyR f s).2 = s' ∧ (s' ≠ none → (manyR f s).1 = acc)
theorem MR.stop {α : Type} {f : Rst → α × Rst} {s s' : Rst} {acc : List α} (h : MR f s s' acc) (hn : s' ≠ none) : s ≠ none := by
  rintro rfl
  exact hn (h.1.symm.trans (manyR_stop f))
theorem LR.mr {α : Type} {f : Rst → α × Rst} {k : Nat} {s0 s : Rst} {acc : List α} (h : LR (manyR f s0) f k s acc) (hk : k = 0 ∨ s = none) : MR f s0 s acc := h.done hk
theorem parts_of {s0 s1 s2 s3 s4 s5 : Rst} {ws bs : List Int} {ns : List Nm} {ds : List Nd} {k : Nat} (h1 : MR wordR s0 s1 ws) (h2 : halfR s1 = ((k : Int), s2)) (h3 : (bytesR k s2).2 = s3) (h3' : zeroR k s2 = bs) (h4 : MR nmR s3 s4 ns) (h5 : MR ndR s4 s5 ds) :
    (parts s0).st = s5 ∧ (s5 ≠ none → parts s0 = ⟨ws, bs, ns, ds, s5⟩) := by
  obtain ⟨W1, hW1⟩ : ∃ W1, (manyR wordR s0).1 = W1 := ⟨_, rfl⟩
  obtain ⟨B1, hB1⟩ : ∃ B1, (bytesR k s2).1 = B1 := ⟨_, rfl⟩
  obtain ⟨N1, hN1⟩ : ∃ N1, (manyR nmR s3).1 = N1 := ⟨_, rfl⟩
  obtain ⟨D1, hD1⟩ : ∃ D1, (manyR ndR s4).1 = D1 := ⟨_, rfl⟩
  have e := parts_eq (show manyR wordR s0 = (W1, s1) from Prod.ext hW1 h1.1) h2 (show bytesR k s2 = (B1, s3) from Prod.ext hB1 h3) (show manyR nmR s3 = (N1, s4) from Prod.ext hN1 h4.1) (show manyR ndR s4 = (D1, s5) from Prod.ext hD1 h5.1)
  refine ⟨by rw [e], fun hn => ?_⟩
  have n4 := h5.stop hn
  have n3 := h4.stop n4
  have n2 : s2 ≠ none := bytes_stop h3 n3
  have n1 : s1 ≠ none := half_stop h2 n2
  have hb : B1 = bs := by rw [← h3', ← hB1]; unfold zeroR; rw [if_neg (by rw [h3]; exact n3)]
  rw [e, ← hW1, h1.2 n1, ← hN1, h4.2 n4, ← hD1, h5.2 hn, hb]
section
variable {W W' wa : World} {B pb pe pa pt ob n c a m : Nat} {A Aa A9 : Option Addr} {ca : Nat} {xs : List Int} {s : Rst} {v0 v1 vN v3 : Value} {ws bs zs : List Int} {ns : List Nm} {ds : List Nd}
theorem put1_ro (h : RO W B pb pe pa pt ob A n c xs s a v0 (.slice none 0 0) vN v3 ws [] ns ds) (hz : RB W W.heap.size A9 m zs) (hr : Row wa B 5 1 (.slice Aa m ca) m ([] ++ zs.map (Value.int .u8))) (hg : W.grownBy wa (Value.slice none 0 0).ownBlock) :
    RO (wa.setCell ⟨ob, 1, none⟩ (.slice Aa m ca)) B pb pe pa pt ob A n c xs s a v0 (.slice Aa m ca) vN v3 ws zs ns ds ∧ Below B W (wa.setCell ⟨ob, 1, none⟩ (.slice Aa m ca)) := by
  have hl := hz.len
  subst hl
  exact h.put1 (Fr.of_grown hg) ⟨Aa, ca, rfl, by simpa using hr⟩ hz.2
theorem ro_full {n0 n1 n2 n3 c0 c1 c2 c3 : Nat} {A0 A1 A2 A3 : Option Addr} (h : RO W B pb pe pa pt ob A n c xs s a (.slice A0 n0 c0) (.slice A1 n1 c1) (.slice A2 n2 c2) (.slice A3 n3 c3) ws bs ns ds)
    (l0 : ws.length ≤ 65535) (l1 : bs.length ≤ 65535) (l2 : ns.length ≤ 65535) (l3 : ds.length ≤ 65535) {S : Nat → Prop} (hf : Fr S W W') (hS : ∀ k, S k → k < B) :
    Ob.Full ⟨A0, n0, c0, A1, n1, c1, A2, n2, c2, A3, n3, c3, ns, ds⟩ W' W'.heap.size ws bs ∧ n0 = ws.length ∧ n1 = bs.length ∧ n2 = ns.length ∧ n3 = ds.length := by
  have h := h.o
  have k0 : n0 = ws.length := by obtain ⟨_, _, e, _⟩ := h.o0; injection e
  have k1 : n1 = bs.length := by obtain ⟨_, _, e, _⟩ := h.o1; injection e
  have k2 : n2 = ns.length := by obtain ⟨_, _, e, _⟩ := h.oN; injection e
  have k3 : n3 = ds.length := by obtain ⟨_, _, e, _⟩ := h.o3; injection e
  subst k0 k1 k2 k3
  have keep : ∀ {e size n : Nat} {v : Value} {xs : List Value}, OwnS W B e size n v xs → OwnS W' B e size n v xs := fun ho => ho.fr hf (fun k hk hs => by have := hS k hs; have := (ho.row.lt k hk).1; omega)
  exact ⟨⟨⟨⟨⟨(keep h.oN).at_, rfl⟩, h.fn⟩, ⟨⟨(keep h.o3).at_, rfl⟩, h.fd⟩, by dsimp only; omega, by dsimp only; omega, by dsimp only; omega, by dsimp only; omega⟩, (keep h.o0).at_, ⟨(keep h.o1).at_, h.fb⟩⟩, rfl, rfl, rfl, rfl⟩
end
theorem own_cap {W : World} {B e size n n' c : Nat} {A : Option Addr} {xs : List Value} (h : OwnS W B e size n (.slice A n' c) xs) : n' ≤ c ∧ c ≤ maxLen := by
  obtain ⟨A1, c1, e1, hr⟩ := h
  injection e1 with e1 e2 e3
  subst e2 e3
  obtain ⟨A2, c2, e2, h1, h2⟩ := hr.shape
  injection e2 with _ _ e2
  subst e2
  exact ⟨h1, h2⟩
theorem one_u8 (zs : List Int) : ∀ u ∈ zs.map (Value.int .u8), u.oneCell' = true := by
  intro u hu
  obtain ⟨x, _, rfl⟩ := List.mem_map.1 hu
  rfl
theorem u32_join {y b : Int} (ha : 0 ≤ y ∧ y < 65536) (hb : 0 ≤ b ∧ b < 65536) : IntKind.u32.wrap (y + IntKind.u32.wrap (b * 65536)) = y + 65536 * b := by
  simp only [IntKind.wrap_u32]
  omega
end Go.Proofs.Ytgmpcdonmlhohaa
