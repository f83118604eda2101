/- Programs as files, plain: what is trimmed, summed and written; pages in memory; bytes.Clone f18, sums f13, f14, four f17, word f22, little f19. -/
import Derived.Test.YtdgjcjhdclihpaaDoorLbB
import Derived.Test.YtdgjcjhdclihpaaDoorLbC
import Derived.Test.YtdgjcjhdclihpaaDoorOwnC
import Derived.Test.YtdgjcjhdclihpaaDoorRecs
import Derived.Lib.SmallJoins
namespace Go.Proofs.YtdgjcjhdclihpaaDoor
open Go.RowKit
set_option maxHeartbeats 400000
set_option linter.unusedVariables false
set_option linter.unusedSimpArgs false
/-- The length without the zeros at the end, of the first n. -/
def tn (xs : List Int) : Nat → Nat
  | 0 => 0
  | n + 1 => if xs.getD n 0 = 0 then tn xs n else n + 1
theorem tn_le (xs : List Int) : ∀ n, tn xs n ≤ n
  | 0 => Nat.le_refl _
  | n + 1 => by
    unfold tn
    split
    · have := tn_le xs n; omega
    · omega
theorem tn_zero {xs : List Int} {n : Nat} (h : xs.getD n 0 = 0) : tn xs (n + 1) = tn xs n := by rw [tn, if_pos h]
theorem tn_some {xs : List Int} {n : Nat} (h : ¬ xs.getD n 0 = 0) : tn xs (n + 1) = n + 1 := by rw [tn, if_neg h]
def trim (xs : List Int) : List Int := xs.take (tn xs xs.length)
theorem trim_len (xs : List Int) : (trim xs).length = tn xs xs.length := by
  have := tn_le xs xs.length
  unfold trim; simp; omega
theorem trim_byt {xs : List Int} (h : Byt xs) : Byt (trim xs) := fun x hx => h x (List.mem_of_mem_take hx)
def sumGo : Int → List Int → Int
  | s, [] => s
  | s, c :: r => sumGo ((s * 31 + c) % 4294967296) r
def sumS (xs : List Int) : Int := sumGo 1 xs
theorem sumGo_rng : ∀ (xs : List Int) (s : Int), 0 ≤ s → s < 4294967296 → 0 ≤ sumGo s xs ∧ sumGo s xs < 4294967296
  | [], s, h0, h1 => ⟨h0, h1⟩
  | c :: r, s, h0, h1 => sumGo_rng r _ (Int.emod_nonneg _ (by decide)) (Int.emod_lt_of_pos _ (by decide))
theorem sumS_rng (xs : List Int) : 0 ≤ sumS xs ∧ sumS xs < 4294967296 := sumGo_rng xs 1 (by decide) (by decide)
def four (w : Int) : List Int := [w % 256, w / 256 % 256, w / 65536 % 256, w / 16777216 % 256]
theorem four_byt (w : Int) : Byt (four w) := by
  intro x hx
  simp [four] at hx
  rcases hx with rfl | rfl | rfl | rfl <;> omega
/-- What a page says. -/
abbrev Key := Int × Int × List Int
def Pg.key (g : Pg) : Key := (g.p, g.r, g.xs)
def Pg.keyT (g : Pg) : Key := (g.p, g.r, trim g.xs)
def pageS (k : Key) : List Int := [k.1 % 256, k.2.1 % 256, (k.2.2.length : Int) % 256] ++ k.2.2
def headS (e : Int) (m : Nat) : List Int := [82, 72, 49, (m : Int) % 256] ++ four e
def bodyS (e : Int) (ks : List Key) : List Int := headS e ks.length ++ ks.flatMap pageS
def fileS (e : Int) (ks : List Key) : List Int := bodyS e ks ++ four (sumS (bodyS e ks))
/-- What a file is: its bytes, and the error. -/
def FileIs (e : Int) (gs : List Pg) (bs : List Int) (er : Int) : Prop :=
  ∃ x, ErrIs e gs x ∧ ((x ≠ 0 ∧ bs = [] ∧ er = x) ∨ (x = 0 ∧ 512 < (fileS e (gs.map Pg.keyT)).length ∧ bs = [] ∧ er = 2) ∨ (x = 0 ∧ (fileS e (gs.map Pg.keyT)).length ≤ 512 ∧ bs = fileS e (gs.map Pg.keyT) ∧ er = 0))
theorem FileIs.unique {e : Int} {gs : List Pg} {bs bs' : List Int} {er er' : Int} (h : FileIs e gs bs er) (h' : FileIs e gs bs' er') : bs = bs' ∧ er = er' := by
  obtain ⟨x, hx, h⟩ := h
  obtain ⟨x', hx', h'⟩ := h'
  obtain rfl := hx.unique hx'
  rcases h with ⟨h1, rfl, rfl⟩ | ⟨h1, h2, rfl, rfl⟩ | ⟨h1, h2, rfl, rfl⟩ <;> rcases h' with ⟨g1, rfl, rfl⟩ | ⟨g1, g2, rfl, rfl⟩ | ⟨g1, g2, rfl, rfl⟩
  · exact ⟨rfl, rfl⟩
  · exact absurd g1 h1
  · exact absurd g1 h1
  · exact absurd h1 g1
  · exact ⟨rfl, rfl⟩
  · omega
  · exact absurd h1 g1
  · omega
  · exact ⟨rfl, rfl⟩
theorem FileIs.len {e : Int} {gs : List Pg} {bs : List Int} {er : Int} (h : FileIs e gs bs er) : bs.length ≤ 512 := by
  obtain ⟨x, hx, ⟨h1, rfl, rfl⟩ | ⟨h1, h2, rfl, rfl⟩ | ⟨h1, h2, rfl, rfl⟩⟩ := h
  · simp
  · simp
  · exact h2
/-- What an image without error is made of. -/
theorem ErrIs.zero_ok {e : Int} {gs : List Pg} (h : ErrIs e gs 0) : gs.length ≤ 64 ∧ ∀ k, k < gs.length → okPg gs k := by
  rcases h with ⟨_, h⟩ | ⟨_, _, h⟩ | ⟨h1, h2, h3, _⟩
  · omega
  · omega
  · exact ⟨h1, h2⟩
/-! pages of the call's own -/
theorem bp_row_blk {w : World} {base e size n g : Nat} {v : Value} {xs : List Value} {cs : Array Value} {t : TypeId} (h : Row w base e size v n xs) (hb : Blk w g cs t) (ht : e ≠ t) : v.ownBlock ≠ some g := by
  obtain ⟨_, h2⟩ := h
  rcases h2 with ⟨rfl, _⟩ | ⟨g', o, cap, cur, rfl, _, hblk, _⟩
  · intro e; cases e
  · intro e
    injection e with e
    subst e
    unfold Blk at hb
    rw [hblk] at hb
    simp at hb
    exact ht hb.2
theorem bl_row_row {w : World} {base base' e e' size size' n n' : Nat} {v v' : Value} {xs xs' : List Value} (h : Row w base e size v n xs) (h' : Row w base' e' size' v' n' xs') (ht : e ≠ e') : ∀ k, v.ownBlock = some k → v'.ownBlock ≠ some k := by
  intro k hk hk'
  rcases h.2 with ⟨rfl, _⟩ | ⟨g, o, cap, cur, rfl, _, hg, _⟩
  · simp [Value.ownBlock] at hk
  · rcases h'.2 with ⟨rfl, _⟩ | ⟨g', o', cap', cur', rfl, _, hg', _⟩
    · simp [Value.ownBlock] at hk'
    · simp [Value.ownBlock] at hk hk'
      subst hk; subst hk'
      rw [hg] at hg'
      injection hg' with hg'
      injection hg' with _ hg'
      exact ht hg'
/-- Bytes that lie in a block of the call's own (or are none). -/
def OwnBs (w : World) (B : Nat) (A : Option Addr) (n c : Nat) (xs : List Int) : Prop :=
  RB w w.heap.size A n xs ∧ ∀ k, (Value.slice A n c).ownBlock = some k → B ≤ k ∧ ∃ cs f, w.heap[k]? = some (.cells cs 5 f)
theorem OwnBs.lt {w : World} {B n c k : Nat} {A : Option Addr} {xs : List Int} (h : OwnBs w B A n c xs) (hk : (Value.slice A n c).ownBlock = some k) : k < w.heap.size := by
  obtain ⟨_, cs, f, hb⟩ := h.2 k hk
  exact lt_blk hb
theorem OwnBs.fr {S : Nat → Prop} {w w' : World} {B n c : Nat} {A : Option Addr} {xs : List Int} (h : OwnBs w B A n c xs) (hf : Fr S w w') (hn : ∀ k, (Value.slice A n c).ownBlock = some k → ¬ S k) : OwnBs w' B A n c xs := by
  refine ⟨⟨⟨h.1.1.1, fun h0 => ?_⟩, h.1.2⟩, fun k hk => ?_⟩
  · obtain ⟨b, o, rfl, hb, hc⟩ := h.1.1.2 h0
    refine ⟨b, o, rfl, Nat.lt_of_lt_of_le hb hf.size, fun j u hu => ?_⟩
    exact (hf.cell (p := ⟨b, o + j, none⟩) hb (hn b rfl)).trans (hc j u hu)
  · obtain ⟨h1, cs, f, h2⟩ := h.2 k hk
    exact ⟨h1, cs, f, (hf.block k (lt_blk h2) (hn k hk)).trans h2⟩
theorem OwnBs.grow {w w' : World} {B n c : Nat} {A : Option Addr} {xs : List Int} (h : OwnBs w B A n c xs) (hb : Below w.heap.size w w') : OwnBs w' B A n c xs := h.fr (Fr.of_grow hb) (fun _ _ h => h)
theorem OwnBs.base {w : World} {B B' n c : Nat} {A : Option Addr} {xs : List Int} (h : OwnBs w B A n c xs) (hB : B' ≤ B) : OwnBs w B' A n c xs := ⟨h.1, fun k hk => ⟨Nat.le_trans hB (h.2 k hk).1, (h.2 k hk).2⟩⟩
theorem OwnBs.of_row {w : World} {B n c : Nat} {A : Option Addr} {xs : List Int} (h : Row w B 5 1 (.slice A n c) n (xs.map (Value.int .u8))) (hb : Byt xs) : OwnBs w B A n c xs := by
  refine ⟨⟨h.reads, hb⟩, fun k hk => ?_⟩
  rcases h.2 with ⟨e, _⟩ | ⟨g, o, cap, cur, e, hB, hg, _⟩
  · injection e with e; subst e; simp [Value.ownBlock] at hk
  · injection e with e; subst e
    simp [Value.ownBlock] at hk
    subst hk
    exact ⟨hB, cur, _, hg⟩
theorem OwnBs.of_bytes (w : World) (xs : List Int) (hb : Byt xs) (c : Nat) : OwnBs (Lib.bytesWorld w 5 (strOfNums xs)) w.heap.size (some ⟨w.heap.size, 0, none⟩) xs.length c xs := by
  refine ⟨(RB.bytes w 5 xs hb).more (by rw [Lib.bytesWorld_size]; omega), fun k hk => ?_⟩
  simp [Value.ownBlock] at hk
  subst hk
  exact ⟨Nat.le_refl _, _, _, Lib.bytesWorld_at_new w 5 (strOfNums xs)⟩
theorem OwnBs.ne_row {w : World} {B n c base e size n' : Nat} {A : Option Addr} {xs : List Int} {v : Value} {ys : List Value} (h : OwnBs w B A n c xs) (h' : Row w base e size v n' ys) (ht : 5 ≠ e) : ∀ k, (Value.slice A n c).ownBlock = some k → v.ownBlock ≠ some k := by
  intro k hk hk'
  obtain ⟨_, cs, f, hb⟩ := h.2 k hk
  rcases h'.2 with ⟨rfl, _⟩ | ⟨g', o', cap', cur', rfl, _, hg', _⟩
  · simp [Value.ownBlock] at hk'
  · simp [Value.ownBlock] at hk'
    subst hk'
    rw [hb] at hg'
    injection hg' with hg'
    injection hg' with _ hg'
    exact ht hg'
theorem OwnBs.ne_blk {w : World} {B n c g : Nat} {A : Option Addr} {xs : List Int} {cs : Array Value} {t : TypeId} (h : OwnBs w B A n c xs) (hb : Blk w g cs t) (ht : 5 ≠ t) : (Value.slice A n c).ownBlock ≠ some g := by
  intro hk
  obtain ⟨_, cs', f, hb'⟩ := h.2 g hk
  unfold Blk at hb
  rw [hb'] at hb
  injection hb with hb
  injection hb with _ hb
  exact ht hb
def Pg.own (w : World) (B : Nat) (g : Pg) : Prop := OwnBs w B g.A g.n g.c g.xs ∧ I64 g.p ∧ I64 g.r ∧ g.n ≤ 9223372036854775807
theorem Pg.own.fr {w w' : World} {S : Nat → Prop} {B : Nat} {g : Pg} (h : g.own w B) (hf : Fr S w w') (hn : ∀ k, (Value.slice g.A g.n g.c).ownBlock = some k → ¬ S k) : g.own w' B := ⟨h.1.fr hf hn, h.2⟩
structure PgS (w : World) (B : Nat) (v : Value) (gs : List Pg) : Prop where
  row : Row w B 41 3 v gs.length (gs.flatMap Pg.cells)
  own : ∀ g ∈ gs, g.own w B
theorem PgS.nil (w : World) (B : Nat) : PgS w B (.slice none 0 0) [] := ⟨Row.nil _ _ _ _, fun g hg => by simp at hg⟩
theorem PgS.grow {w w' : World} {B : Nat} {v : Value} {gs : List Pg} (h : PgS w B v gs) (hb : Below w.heap.size w w') : PgS w' B v gs :=
  ⟨h.row.grow hb, fun g hg => (h.own g hg).fr (Fr.of_grow hb) (fun _ _ h => h)⟩
theorem PgS.base {w : World} {B B' : Nat} {v : Value} {gs : List Pg} (h : PgS w B v gs) (hb : B' ≤ B) : PgS w B' v gs := ⟨h.row.base_le hb, fun g hg => ⟨(h.own g hg).1.base hb, (h.own g hg).2⟩⟩
theorem PgS.set {w : World} {B : Nat} {v : Value} {gs : List Pg} {g : Nat} {cs : Array Value} {t : TypeId} (h : PgS w B v gs) (hb : Blk w g cs t) (h1 : 41 ≠ t) (h2 : 5 ≠ t) (j : Nat) (u : Value) : PgS (w.setCell ⟨g, j, none⟩ u) B v gs :=
  ⟨h.row.setCell (fun e => bp_row_blk h.row hb h1 e) u, fun x hx => (h.own x hx).fr ((Fr.refl (fun k => k = g) w).setCell (p := ⟨g, j, none⟩) (fun _ => rfl) u) (fun k hk e => (h.own x hx).1.ne_blk hb h2 (by rw [hk]; exact congrArg some e))⟩
theorem PgS.drew {w : World} {B : Nat} {v : Value} {gs : List Pg} (h : PgS w B v gs) : PgS w.drew B v gs := h.grow (Below.refl _ w).drew
theorem PgS.app {w w' : World} {B : Nat} {v v' : Value} {gs : List Pg} {g : Pg} (h : PgS w B v gs) (hr : Row w' B 41 3 v' (gs.length + 1) (gs.flatMap Pg.cells ++ g.cells)) (hf : Fr (fun k => v.ownBlock = some k) w w') (hg : g.own w B) : PgS w' B v' (gs ++ [g]) := by
  refine ⟨by rw [List.length_append]; simpa using hr, fun x hx => ?_⟩
  rcases List.mem_append.1 hx with hx | hx
  · exact (h.own x hx).fr hf (fun k hk e => (h.own x hx).1.ne_row h.row (by decide) k hk e)
  · simp at hx
    subst hx
    exact hg.fr hf (fun k hk e => hg.1.ne_row h.row (by decide) k hk e)
theorem PgS.rp {w : World} {B n : Nat} {A : Option Addr} {c : Nat} {gs : List Pg} (h : PgS w B (.slice A n c) gs) (hn : gs.length = n) : RP w w.heap.size A n gs := by
  have hr := h.row
  rw [hn] at hr
  exact ⟨hr.reads, hn, fun g hg => ⟨(h.own g hg).1.1, (h.own g hg).2⟩⟩
/-- An image behind a call: its pages say ks. -/
def ImPost (e : Int) (ks : List Key) (w : World) (er : Ending) (w' : World) : Prop :=
  ∃ A n c gs, er = .returned (.agg #[.int .u32 e, .slice A n c]) ∧ gs.length = n ∧ gs.map Pg.key = ks ∧ PgS w' w.heap.size (.slice A n c) gs ∧ Below w.heap.size w w'
theorem infoB : (Tryd.prog.info? 5).map (fun i => (i.zero, i.size, i.bytes)) = some (some (.int .u8 0), 1, 1) := by kernel_rfl
theorem infoG : (Tryd.prog.info? 41).map (fun i => (i.zero, i.size, i.bytes)) = some (some (.agg #[.int .i64 0, .int .i64 0, .slice none 0 0]), 3, 40) := by kernel_rfl
theorem ob_eql_nil {P : Program} (w : World) (t e : TypeId) (a : Option Addr) (n c n' c' : Nat) (h : P.underlying t = some (.slice e)) :
    (binOp .eql t (.slice a n c) (.slice none n' c')).run P w = .ok (.bool a.isNone) w := by
  simp only [binOp]
  simp [Op.equal, Op.maxDepth, Lib.run_equalIn_slice_nil w 9999 t e a n c n' c' h]
theorem one_i {k : IntKind} (xs : List Int) : ∀ u ∈ xs.map (Value.int k), u.oneCell' = true := by
  intro u hu
  obtain ⟨x, _, rfl⟩ := List.mem_map.1 hu
  rfl
theorem one_pg (g : Pg) : ∀ u ∈ g.cells, u.oneCell' = true := by
  intro u hu
  simp [Pg.cells] at hu
  rcases hu with rfl | rfl | rfl <;> rfl
/-- Bytes of the call's own behind a call. -/
def BsPost (xs : List Int) (w : World) (e : Ending) (w' : World) : Prop := ∃ A n c, e = .returned (.slice A n c) ∧ xs.length = n ∧ Row w' w.heap.size 5 1 (.slice A n c) n (xs.map (Value.int .u8)) ∧ Below w.heap.size w w'
set_option maxRecDepth 100000 in
theorem cloneB_any (A : Option Addr) (n c : Nat) (xs : List Int) (w : World) (B : Nat) (h : RB w B A n xs) (hB : B ≤ w.heap.size) (hn : n ≤ 140737488355328) :
    Calls Tryd.prog 18 #[.slice A n c] w (BsPost xs w) := by
  have HL := Lib.hid h.len
  obtain ⟨i0, hi, hz0, hz1, hz2⟩ := info_parts infoB
  have hnl := fun (w : World) (a : Option Addr) (n c n' c' : Nat) => ob_eql_nil (P := Tryd.prog) w 26 5 a n c n' c' Tryd.underlying26
  rcases A with _ | ⟨b, o, sp⟩
  · have h0 : n = 0 := by
      rcases Nat.eq_zero_or_pos n with h0 | h0
      · exact h0
      · obtain ⟨_, _, e, _⟩ := h.1.2 h0; cases e
    subst h0
    have hx : xs = [] := List.eq_nil_of_length_eq_zero HL.out
    subst hx
    go_enter Tryd.func18, Tryd.ntmps18
    go_wp2
    go_ret
    exact ⟨none, 0, 0, rfl, rfl, Row.nil _ _ _ _, Below.refl _ _⟩
  · go_enter Tryd.func18, Tryd.ntmps18
    go_wp2_with (at_builtin; refine wpList_append_row _ rfl (.tmp 5) (.tmp 6) 26 rfl w.heap.size 5 i0 (.int .u8 0) 1 1 Tryd.underlying26 hi hz0 hz1 hz2 rfl (by decide) (.slice (some ⟨w.heap.size, 0, none⟩) 0 0) 0 [] rfl ?c1 B (some ⟨b, o, sp⟩) n c (xs.map (Value.int .u8)) rfl ?c2 (one_i xs) ?c3 ?c4 ?c5 ?_)
    case c1 => exact ⟨rfl, .inr ⟨w.heap.size, 0, 0, #[], rfl, Nat.le_refl _, Blk.new w #[] 5, Nat.le_refl _, by simp, by simp, fun j u hu => by simp at hu⟩⟩
    case c2 => exact Reads.alloc h.1 hB _
    case c3 => unfold maxLen; omega
    case c4 => omega
    case c5 => simp
    intro A' c' w1 hr hg _
    go_wp2
    go_ret
    refine ⟨A', n, c', by simp, HL.out, by simpa using hr, ((Below.refl _ _).alloc (Nat.le_refl _) _).grown hg (by simp) (fun k hk => by simp [Value.ownBlock] at hk; omega)⟩
/-! sums -/
theorem sum_drop {xs : List Int} {j : Nat} (h : j < xs.length) (s : Int) : sumGo s (xs.drop j) = sumGo ((s * 31 + xs.getD j 0) % 4294967296) (xs.drop (j + 1)) := by
  rw [List.drop_eq_getElem_cons h, sumGo]
  simp [List.getD, List.getElem?_eq_getElem h]
def U32Is (x : Int) (w : World) (e : Ending) (w' : World) : Prop := e = .returned (.int .u32 x) ∧ Below w.heap.size w w'
set_option maxHeartbeats 1000000 in
set_option maxRecDepth 100000 in
theorem sum_any (A : Option Addr) (n c : Nat) (xs : List Int) (w : World) (B : Nat) (h : RB w B A n xs) (hB : B ≤ w.heap.size) (hn : n ≤ 9223372036854775807) : Calls Tryd.prog 13 #[.slice A n c] w (U32Is (sumS xs) w) := by
  have hl := h.len
  go_enter Tryd.func13, Tryd.ntmps13
  go_wp2
  go_loopw [3, 8] (fun v i wr => ∃ (j : Nat) (s : Int), j ≤ n ∧ i = .int .i64 j ∧ v = .int .u32 s ∧ 0 ≤ s ∧ s < 4294967296 ∧ Hid (sumS xs = sumGo s (xs.drop j)) ∧ Below w.heap.size w wr) (fun _ i _ => n - (intOf i).toNat)
  case atStart => exact ⟨0, 1, by omega, rfl, rfl, by decide, by decide, Lib.hid rfl, Below.refl _ _⟩
  case round =>
    obtain ⟨j, s, hj, rfl, rfl, hs0, hs1, hs, hbw⟩ := hrel
    by_cases hjn : j < n
    · obtain ⟨b, o, rfl, hb, hc, h0, h1⟩ := (h.below' hbw hB).at_ hjn
      have hst := Lib.hid (hs.out.trans (sum_drop (by omega) s))
      generalize xs.getD j 0 = x at *
      have hkn : (j : Int) < n := by omega
      have hk0 : (0 : Int) ≤ j := by omega
      have w1 : IntKind.u32.wrap (s * 31) = s * 31 % 4294967296 := by rw [IntKind.wrap_u32]
      have w2 : IntKind.u32.wrap x = x := by rw [IntKind.wrap_u32]; omega
      have w3 : IntKind.u32.wrap (s * 31 % 4294967296 + x) = (s * 31 + x) % 4294967296 := by rw [IntKind.wrap_u32]; omega
      go_wp2
      go_roundw
      case rel => exact ⟨j + 1, (s * 31 + x) % 4294967296, by omega, by go_num, rfl, by omega, by omega, hst, hbw⟩
      case measure => simp [intOf]; omega
    · obtain rfl : j = n := by omega
      have hfin := Lib.hid (hs.out.trans (by rw [List.drop_of_length_le (by omega)]; rfl) : sumS xs = s)
      go_wp2
      go_ret
      exact ⟨by rw [hfin.out]; rfl, hbw⟩
set_option maxHeartbeats 1000000 in
set_option maxRecDepth 100000 in
theorem loadSum_any (A : Option Addr) (n c : Nat) (xs : List Int) (w : World) (B : Nat) (h : RB w B A n xs) (hB : B ≤ w.heap.size) (hn : n ≤ 9223372036854775807) : Calls Tryd.prog 14 #[.slice A n c] w (U32Is (sumS xs) w) := by
  have hl := h.len
  go_enter Tryd.func14, Tryd.ntmps14
  go_wp2
  go_loopw [3, 8] (fun v i wr => ∃ (j : Nat) (s : Int), j ≤ n ∧ i = .int .i64 j ∧ v = .int .u64 s ∧ 0 ≤ s ∧ s < 4294967296 ∧ Hid (sumS xs = sumGo s (xs.drop j)) ∧ Below w.heap.size w wr) (fun _ i _ => n - (intOf i).toNat)
  case atStart => exact ⟨0, 1, by omega, rfl, rfl, by decide, by decide, Lib.hid rfl, Below.refl _ _⟩
  case round =>
    obtain ⟨j, s, hj, rfl, rfl, hs0, hs1, hs, hbw⟩ := hrel
    by_cases hjn : j < n
    · obtain ⟨b, o, rfl, hb, hc, h0, h1⟩ := (h.below' hbw hB).at_ hjn
      have hst := Lib.hid (hs.out.trans (sum_drop (by omega) s))
      generalize xs.getD j 0 = x at *
      have hkn : (j : Int) < n := by omega
      have hk0 : (0 : Int) ≤ j := by omega
      have w1 : IntKind.u64.wrap (s * 31) = s * 31 := by rw [IntKind.wrap_u64]; omega
      have w2 : IntKind.u64.wrap x = x := by rw [IntKind.wrap_u64]; omega
      have w3 : IntKind.u64.wrap (s * 31 + x) = s * 31 + x := by rw [IntKind.wrap_u64]; omega
      have w4 : (s * 31 + x).tmod 4294967296 = (s * 31 + x) % 4294967296 := Int.tmod_eq_emod_of_nonneg (by omega)
      go_wp2
      go_roundw
      case rel => exact ⟨j + 1, (s * 31 + x) % 4294967296, by omega, by go_num, rfl, by omega, by omega, hst, hbw⟩
      case measure => simp [intOf]; omega
    · obtain rfl : j = n := by omega
      have hfin := Lib.hid (hs.out.trans (by rw [List.drop_of_length_le (by omega)]; rfl) : sumS xs = s)
      have w1 : IntKind.u32.wrap s = s := by rw [IntKind.wrap_u32]; omega
      go_wp2
      go_ret
      exact ⟨by rw [hfin.out]; rfl, hbw⟩
end Go.Proofs.YtdgjcjhdclihpaaDoor
