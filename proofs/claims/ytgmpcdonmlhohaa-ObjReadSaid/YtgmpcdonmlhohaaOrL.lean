/- Contract of ringref4.ObjOf. -/
import Derived.Test.YtgmpcdonmlhohaaOrM
import Derived.Laws.EntriesVeiled
namespace Go.Proofs.Ytgmpcdonmlhohaa
open Go.RowKit
set_option maxHeartbeats 400000
set_option linter.unusedVariables false
set_option linter.unusedSimpArgs false
theorem sign_text (xs : List Int) (h : Byt xs) : ((strOfNums (xs.take 3)).toList == [82, 79, 49]) = decide (signed xs) := by
  have := strOfNums_beq (xs := xs.take 3) (ys := [82, 79, 49]) (fun x hx => h x (List.mem_of_mem_take hx)) (fun x hx => by simp at hx; omega)
  rw [← show decide (xs.take 3 = [82, 79, 49]) = decide (signed xs) from rfl, ← this, strOfNums_toList [82, 79, 49]]
  rfl
theorem ro_new {w1 : World} {B pb n c : Nat} {A : Option Addr} {xs : List Int} (hp : Blk w1 pb #[.slice A n c] 35) (hr : RB w1 B A n xs) (hn : 3 ≤ n) (hnc : n ≤ c) (hcm : c ≤ maxLen) (hB : B ≤ w1.heap.size) :
    RO ((((w1.alloc (.cells #[.int .i64 3] 3)).alloc (.cells #[.bool true] 4)).alloc (.cells #[tkV pb (w1.heap.size + 1) w1.heap.size] 98)).alloc (.cells zeros38 38)) B pb (w1.heap.size + 1) w1.heap.size (w1.heap.size + 1 + 1) (w1.heap.size + 1 + 1 + 1) A n c xs (some (xs.drop 3)) 3 (.slice none 0 0) (.slice none 0 0) (.slice none 0 0) (.slice none 0 0) [] [] [] [] := by
  have hb : Below w1.heap.size w1 ((((w1.alloc (.cells #[.int .i64 3] 3)).alloc (.cells #[.bool true] 4)).alloc (.cells #[tkV pb (w1.heap.size + 1) w1.heap.size] 98)).alloc (.cells zeros38 38)) := ((((Below.refl _ _).alloc (Nat.le_refl _) _).alloc (by simp) _).alloc (by simp; omega) _).alloc (by simp; omega) _
  refine ⟨⟨hp.fr (Fr.of_grow hb) id, ?_, (((Blk.new w1 #[.int .i64 3] 3).alloc _).alloc _).alloc _, ?_, hr.below' hb hB, hnc, hcm, hn, fun ys e => by injection e with e; exact e.symm, by omega, by omega, by omega⟩, ⟨?_, own_nil _ _ _ _, own_nil _ _ _ _, own_nil _ _ _ _, own_nil _ _ _ _, by omega, fun x hx => by simp at hx, fun x hx => by simp at hx, fun x hx => by simp at hx, fun x hx => by simp at hx⟩⟩
  · have := ((Blk.new (w1.alloc (.cells #[.int .i64 3] 3)) #[.bool true] 4).alloc (.cells #[tkV pb (w1.heap.size + 1) w1.heap.size] 98)).alloc (.cells zeros38 38)
    simpa using this
  · have := (Blk.new ((w1.alloc (.cells #[.int .i64 3] 3)).alloc (.cells #[.bool true] 4)) #[tkV pb (w1.heap.size + 1) w1.heap.size] 98).alloc (.cells zeros38 38)
    simpa using this
  · have := Blk.new (((w1.alloc (.cells #[.int .i64 3] 3)).alloc (.cells #[.bool true] 4)).alloc (.cells #[tkV pb (w1.heap.size + 1) w1.heap.size] 98)) zeros38 38
    simpa [zeros38] using this
set_option maxHeartbeats 4000000 in
set_option maxRecDepth 100000 in
theorem objOf_any (A : Option Addr) (n c : Nat) (xs : List Int) (w : World) (h : RB w w.heap.size A n xs) (hnc : n ≤ c) (hcm : c ≤ maxLen) :
    Calls Try.prog 23 #[.slice A n c] w (DecP w xs) := by
  obtain ⟨iW, hiW, hzW0, hzW1, hzW2⟩ := info_parts infoW
  obtain ⟨iB, hiB, hzB0, hzB1, hzB2⟩ := info_parts infoB
  obtain ⟨iN, hiN, hzN0, hzN1, hzN2⟩ := info_parts infoN
  obtain ⟨iD, hiD, hzD0, hzD1, hzD2⟩ := info_parts infoD
  have hmf : ∀ fn first cap w, (Instr.makeFunc fn first cap).run Try.prog w = .ok (.func fn first cap) w := fun _ _ _ _ => rfl
  have HL := Lib.hid h.len
  have hb0 : Below w.heap.size w (w.alloc (.cells #[.slice A n c] 35)) := (Below.refl _ _).alloc (Nat.le_refl _) _
  have hb1 := hb0.alloc hb0.size (.cells #[.slice none 0 0, .slice none 0 0, .slice none 0 0, .slice none 0 0] 38)
  have hp1 : Blk ((w.alloc (.cells #[.slice A n c] 35)).alloc (.cells #[.slice none 0 0, .slice none 0 0, .slice none 0 0, .slice none 0 0] 38)) w.heap.size #[.slice A n c] 35 := (Blk.new w _ 35).alloc _
  have hz1 : Blk ((w.alloc (.cells #[.slice A n c] 35)).alloc (.cells #[.slice none 0 0, .slice none 0 0, .slice none 0 0, .slice none 0 0] 38)) (w.heap.size + 1) #[.slice none 0 0, .slice none 0 0, .slice none 0 0, .slice none 0 0] 38 := by
    have := Blk.new (w.alloc (.cells #[.slice A n c] 35)) #[.slice none 0 0, .slice none 0 0, .slice none 0 0, .slice none 0 0] 38
    simpa using this
  have hs1 : w.heap.size + 2 ≤ ((w.alloc (.cells #[.slice A n c] 35)).alloc (.cells #[.slice none 0 0, .slice none 0 0, .slice none 0 0, .slice none 0 0] 38)).heap.size := by simp
  have HR1 := Lib.hid (h.below' hb1 (Nat.le_refl _))
  have HZ1 := Lib.hid hz1
  have HP1 := Lib.hid hp1
  have HBA := Lib.hid hb1
  have HST := Lib.hid (sign_text xs h.2)
  clear hz1 hb0 hb1 hp1 h
  unfold maxLen at hcm
  by_cases hn3 : 3 ≤ n
  · have hconv := (rb_take HR1.out hn3).conv (P := Try.prog) c 35 9 5 Try.underlying35 Try.underlying5 Try.underlying9
    have hi3 : (3 : Int) ≤ n := by omega
    have hd3 : decide ((n : Int) < 3) = false := by simp; omega
    have hi4 : (3 : Int) ≤ c := by omega
    go_enter Try.func23, Try.ntmps23
    go_upto_if 26 with (fail)
    rw [HST.out]
    clear hconv
    generalize ((w.alloc (.cells #[.slice A n c] 35)).alloc (.cells #[.slice none 0 0, .slice none 0 0, .slice none 0 0, .slice none 0 0] 38)) = w1 at *
    by_cases hsg : signed xs
    · have HSG := Lib.hid hsg
      rw [show decide (signed xs) = true by simpa using hsg]
      clear hsg HST
      have hz0 := HP1.out.lt
      go_upto_region 9 with (fail)
      have HRO := Lib.hid (ro_new (pb := w.heap.size) (B := w.heap.size + 2) (A := A) (n := n) (c := c) (xs := xs) HP1.out (HR1.out.more (by omega)) hn3 hnc (by unfold maxLen; omega) hs1)
      have hG : Below w1.heap.size w1 ((((w1.alloc (.cells #[.int .i64 3] 3)).alloc (.cells #[.bool true] 4)).alloc (.cells #[.func (.func 48) #[] #[.pointer (some ⟨w1.heap.size + 1, 0, none⟩), .pointer (some ⟨w.heap.size, 0, none⟩), .pointer (some ⟨w1.heap.size, 0, none⟩)]] 98)).alloc (.cells #[.slice none 0 0, .slice none 0 0, .slice none 0 0, .slice none 0 0] 38)) := ((((Below.refl _ _).alloc (Nat.le_refl _) _).alloc (by simp) _).alloc (by simp; omega) _).alloc (by simp; omega) _
      have HZ5 := Lib.hid (HZ1.out.fr (Fr.of_grow hG) (fun h => h))
      have HB5 := Lib.hid (HBA.out.trans (hG.mono HBA.out.size))
      unfold tkV zeros38 at HRO
      clear hG HZ1 HBA HR1 HP1 hz0
      generalize ((((w1.alloc (.cells #[.int .i64 3] 3)).alloc (.cells #[.bool true] 4)).alloc (.cells #[.func (.func 48) #[] #[.pointer (some ⟨w1.heap.size + 1, 0, none⟩), .pointer (some ⟨w.heap.size, 0, none⟩), .pointer (some ⟨w1.heap.size, 0, none⟩)]] 98)).alloc (.cells #[.slice none 0 0, .slice none 0 0, .slice none 0 0, .slice none 0 0] 38)) = w5 at *
      obtain ⟨pt, hpt⟩ : ∃ q, w1.heap.size + 1 + 1 = q := ⟨_, rfl⟩
      obtain ⟨pe, hpe⟩ : ∃ q, w1.heap.size + 1 = q := ⟨_, rfl⟩
      obtain ⟨pa, hpa⟩ : ∃ q, w1.heap.size = q := ⟨_, rfl⟩
      obtain ⟨ob, hob⟩ : ∃ q, w1.heap.size + 1 + 1 + 1 = q := ⟨_, rfl⟩
      rw [hob, hpt, hpe, hpa] at HRO ⊢
      clear hob hpt hpe hpa hs1
      obtain ⟨m, s1, hs, ra0, ra1, hb1⟩ := half_split (some (xs.drop 3)) HRO.out.r.byt
      obtain ⟨m, rfl⟩ : ∃ k : Nat, m = k := ⟨m.toNat, by omega⟩
      have HS := Lib.hid hs
      clear hs hb1
      go_wp2_with fail
      refine (half_ro HRO.out HS.out).mono ?_
      rintro e w6 ⟨rfl, a6, hR6, hB6⟩
      have H0 : Hid (L1 w5 (w.heap.size + 2) w.heap.size pe pa pt ob A n c xs (some (xs.drop 3)) m w6) := Lib.hid ⟨s1, [], a6, _, hR6, LR.start _ _ _ _ HS.out, by simp; omega, hB6⟩
      clear hR6 hB6 HRO HS
      go_upto_block 0 with (fail)
      go_cut [10, 11] (fun _ _ wx => ∃ s' acc a v0, RO wx (w.heap.size + 2) w.heap.size pe pa pt ob A n c xs s' a v0 (.slice none 0 0) (.slice none 0 0) (.slice none 0 0) acc [] [] [] ∧ MR wordR (some (xs.drop 3)) s' acc ∧ acc.length ≤ 65535 ∧ Below (w.heap.size + 2) w5 wx)
      case first =>
        go_wp2_with fail
        go_loopw [10] (fun i wr => ∃ k : Nat, i = .int .i64 k ∧ k ≤ 65535 ∧ L1 w5 (w.heap.size + 2) w.heap.size pe pa pt ob A n c xs (some (xs.drop 3)) k wr) (fun i _ => (intOf i).toNat)
        case atStart => exact ⟨m, rfl, by omega, H0.out⟩
        case round =>
          obtain ⟨k, rfl, hk, s', acc, a, v0, hR, hL, hl, hB⟩ := hrel
          have HR := Lib.hid hR
          have HL := Lib.hid hL
          have HB := Lib.hid hB
          clear hR hL hB H0
          have hce := HR.out.r.ke.cell 0
          have hle := HR.out.r.ke.lt
          by_cases hk0 : k = 0
          · subst hk0
            have HD := Lib.hid (HL.out.mr (.inl rfl))
            go_wp2
            go_meet
            exact ⟨s', acc, a, v0, HR.out, HD.out, by omega, HB.out⟩
          · cases s' with
            | none =>
              have HD := Lib.hid (HL.out.mr (.inr rfl))
              have hkp : decide (0 < k) = true := by simp; omega
              have hkq : 0 < k := by omega
              go_wp2
              go_meet
              exact ⟨none, acc, a, v0, HR.out, HD.out, by omega, HB.out⟩
            | some ys =>
              obtain ⟨j, rfl⟩ : ∃ j, k = j + 1 := ⟨k - 1, by omega⟩
              have hkp : decide (0 < j + 1) = true := by simp
              obtain ⟨y, s1, hs1, ra0, ra1, hb1⟩ := half_split (some ys) HR.out.r.byt
              obtain ⟨b, s2, hs2, rb0, rb1, hb2⟩ := half_split s1 hb1
              have HW : Hid (wordR (some ys) = (y + 65536 * b, s2)) := Lib.hid (by unfold wordR; rw [hs1]; dsimp only; rw [hs2])
              have HS1 := Lib.hid hs1
              have HS2 := Lib.hid hs2
              clear hs1 hs2 hb1 hb2
              have hwa : IntKind.u32.wrap y = y := by rw [IntKind.wrap_u32]; omega
              have hwb : IntKind.u32.wrap b = b := by rw [IntKind.wrap_u32]; omega
              have HV : Hid (IntKind.u32.wrap (y + IntKind.u32.wrap (b * 65536)) = y + 65536 * b) := Lib.hid (u32_join ⟨ra0, ra1⟩ ⟨rb0, rb1⟩)
              go_wp2_with fail
              refine (half_ro HR.out HS1.out).mono ?_
              rintro e w1 ⟨rfl, a1, hR1, hB1⟩
              have H1 := Lib.hid hR1
              have HB1 := Lib.hid (HB.out.trans hB1)
              clear hR1 hB1 hce hle HR HB
              obtain ⟨A0, c0, rfl, -⟩ := H1.out.o.o0
              have hcb := H1.out.o.blk.cell 0
              have hlb := H1.out.o.blk.lt
              have HHC := Lib.hid (half_rof H1.out.drew HS2.out)
              go_wp2_with fail
              go_region_law (first | (refine step_call_val rfl (.tmp 46) 49 #[.pointer (some ⟨pt, 0, none⟩)] #[] #[] rfl (by simp [Act.eval, Act.put]) #[] (by simp) (run49 _ w1.drew) (HRoF w1.drew (w.heap.size + 2) w.heap.size pe pa pt ob A n c xs s2 b (.slice A0 acc.length c0) (.slice none 0 0) (.slice none 0 0) (.slice none 0 0) acc [] [] []) HHC.out ?_; rintro v8 w8 ⟨rfl, a8, hR8, hB8⟩; have H8 := Lib.hid hR8; have HB8 : Hid (Below (w.heap.size + 2) w1 w8) := Lib.hid ((Below.refl _ _).drew.trans hB8); have k80 := hR8.o.blk.cell 0; have kl8 := hR8.o.blk.lt; have HR8 := Lib.hid (hR8.alloc (.cells #[.int .u32 (IntKind.u32.wrap (y + IntKind.u32.wrap (b * 65536)))] 22)); clear hR8 hB8) | (refine step_append_row rfl (.tmp 43) (.tmp 51) 30 rfl (w.heap.size + 2) 22 iW (.int .u32 0) 1 4 Try.underlying30 hiW hzW0 hzW1 hzW2 rfl (by decide) (.slice A0 acc.length c0) acc.length (acc.map (Value.int .u32)) (by simp [Act.eval, Act.put]) HR8.out.o.o0.row (w8.heap.size + 1) (some ⟨w8.heap.size, 0, none⟩) 1 1 [.int .u32 (IntKind.u32.wrap (y + IntKind.u32.wrap (b * 65536)))] (by simp [Act.eval, Act.put]) (reads_one w8 (.int .u32 (IntKind.u32.wrap (y + IntKind.u32.wrap (b * 65536)))) 22) (by simp [Value.oneCell']) (by unfold maxLen; omega) (by omega) (HR8.out.low) ?_; intro A9 c9 w9 hr9 hg9 ho9; have kb9 := HR8.out.o.blk.fr (Fr.of_grown hg9) (fun e => HR8.out.o.o0.ne_blk HR8.out.o.blk (by decide) e); have k90 := kb9.cell 0; have kl9 := kb9.lt; have kf9 := kb9.free 0; have HP9 := Lib.hid (l1_next HL.out hl HB1.out HB8.out HR8.out H8.out.low HV.out HW.out hr9 hg9 ⟨ra0, ra1⟩ ⟨rb0, rb1⟩); clear kb9 hr9 hg9 ho9) | fail)
              all_goals
                go_wp2
                go_roundw
                case rel => exact ⟨j, by go_num, by omega, HP9.out⟩
                case measure => simp [intOf]
      case rest =>
        obtain ⟨s7, ws, a7, v0, hR, hM, hl0, hB⟩ := hcut
        rename World => w7
        obtain ⟨m2, s2, hs2, rm0, rm1, hb2⟩ := half_split s7 hR.r.byt
        obtain ⟨m2, rfl⟩ : ∃ k : Nat, m2 = k := ⟨m2.toNat, by omega⟩
        obtain ⟨s3, hs3⟩ : ∃ s3, (bytesR m2 s2).2 = s3 := ⟨_, rfl⟩
        obtain ⟨bs, hbs⟩ : ∃ bs, zeroR m2 s2 = bs := ⟨_, rfl⟩
        have HR7 := Lib.hid hR
        have HM1 := Lib.hid hM
        have HB7 := Lib.hid hB
        have HS2 := Lib.hid hs2
        have HS3 := Lib.hid hs3
        have HBS := Lib.hid hbs
        clear hs2 hs3 hbs hb2 hR hM hB H0
        have hct := HR7.out.r.kt.cell 0
        unfold tkV at hct
        have hlt := HR7.out.r.kt.lt
        have hlb := HR7.out.o.blk.lt
        have HHC := Lib.hid (half_rof HR7.out.drew HS2.out)
        have HTK := Lib.hid (fun w8 a8 (h : RO w8 (w.heap.size + 2) w.heap.size pe pa pt ob A n c xs s2 a8 v0 (.slice none 0 0) (.slice none 0 0) (.slice none 0 0) ws [] [] []) => take_ro h (k := m2) (by omega))
        go_wp2_with fail
        go_region_law (first | (refine step_call_val rfl (.tmp 55) 49 #[.pointer (some ⟨pt, 0, none⟩)] #[] #[] rfl (by simp [Act.eval, Act.put]) #[] (by simp) (run49 _ w7.drew) (HRoF w7.drew (w.heap.size + 2) w.heap.size pe pa pt ob A n c xs s2 m2 v0 (.slice none 0 0) (.slice none 0 0) (.slice none 0 0) ws [] [] []) HHC.out ?_; rintro v8 w8 ⟨rfl, a8, hR8, hB8⟩; have H8 := Lib.hid hR8; have HB8 : Hid (Below (w.heap.size + 2) w5 w8) := Lib.hid (HB7.out.trans ((Below.refl _ _).drew.trans hB8)); have hct8 := hR8.r.kt.cell 0; unfold tkV at hct8; have hlt8 := hR8.r.kt.lt; have HT8 := Lib.hid (HTK.out w8 a8 hR8); clear hR8 hB8) | (refine step_call_val rfl (.tmp 54) 48 #[.pointer (some ⟨pe, 0, none⟩), .pointer (some ⟨w.heap.size, 0, none⟩), .pointer (some ⟨pa, 0, none⟩)] #[.tmp 56] #[3] rfl (by simp [Act.eval, Act.put]) #[.int .i64 m2] (by simp [Act.eval, Act.put]) (run48 _ w8) (TkRo w8 (w.heap.size + 2) w.heap.size pe pa pt ob A n c xs s2 m2 v0 (.slice none 0 0) (.slice none 0 0) (.slice none 0 0) ws [] [] []) HT8.out ?_; rintro v9 w9 ⟨A9, c9, a9, rfl, hz9, hR9, hB9⟩; rw [HS3.out] at hR9; rw [HBS.out] at hz9; have H9 := Lib.hid hR9; have HZ9 := Lib.hid hz9; have HB9 : Hid (Below (w.heap.size + 2) w5 w9) := Lib.hid (HB8.out.trans hB9); clear hR9 hz9 hB9) | (refine step_append_row rfl (.const (.slice none 0 0)) (.tmp 57) 35 rfl (w.heap.size + 2) 5 iB (.int .u8 0) 1 1 Try.underlying35 hiB hzB0 hzB1 hzB2 rfl (by decide) (.slice none 0 0) 0 [] (by simp [Act.eval]) (Row.nil _ _ _ _) w9.heap.size A9 m2 c9 (bs.map (Value.int .u8)) (by simp [Act.eval, Act.put]) HZ9.out.1 (one_u8 bs) (by unfold maxLen; omega) (by omega) (H9.out.low) ?_; intro Aa ca wa hra hga hoa; rw [Nat.zero_add] at hra ⊢; obtain ⟨hRa, hBa⟩ := put1_ro H9.out HZ9.out hra hga; have HRa := Lib.hid hRa; have HBa := Lib.hid (HB9.out.trans hBa); have kba := H9.out.o.blk.fr (Fr.of_grown hga) (fun e => H9.out.o.o1.ne_blk H9.out.o.blk (by decide) e); have ka0 := kba.cell 1; have kla := kba.lt; have kfa := kba.free 1; clear kba hra hga hoa hRa hBa) | fail)
        all_goals
          have hbl : bs.length ≤ 65535 := by
            have := HZ9.out.len
            omega
          clear HT8 hct8 hlt8 HTK HHC hct hlt hlb HR7 HB7 H8 HB8 H9 HB9 ka0 kla kfa HZ9
          generalize wa.setCell ⟨ob, 1, none⟩ (.slice Aa m2 ca) = wb at *
          obtain ⟨m3, s4, hs4, rn0, rn1, hb4⟩ := half_split s3 HRa.out.r.byt
          obtain ⟨m3, rfl⟩ : ∃ k : Nat, m3 = k := ⟨m3.toNat, by omega⟩
          have HS4 := Lib.hid hs4
          clear hs4 hb4
          go_wp2_with fail
          refine (half_ro HRa.out HS4.out).mono ?_
          rintro e w10 ⟨rfl, a10, hR10, hB10⟩
          have H0 : Hid (L2 w5 (w.heap.size + 2) w.heap.size pe pa pt ob A n c xs s3 v0 (.slice Aa m2 ca) ws bs m3 w10) := Lib.hid ⟨s4, [], a10, _, hR10, LR.start _ _ _ _ HS4.out, by simp; omega, HBa.out.trans hB10⟩
          clear hR10 hB10 HRa HBa HS4
          go_upto_block 2 with (fail)
          go_cut [12, 13] (fun _ _ wx => ∃ s' acc a vN, RO wx (w.heap.size + 2) w.heap.size pe pa pt ob A n c xs s' a v0 (.slice Aa m2 ca) vN (.slice none 0 0) ws bs acc [] ∧ MR nmR s3 s' acc ∧ acc.length ≤ 65535 ∧ Below (w.heap.size + 2) w5 wx)
          case first =>
            go_wp2_with fail
            go_loopw [12] (fun i wr => ∃ k : Nat, i = .int .i64 k ∧ k ≤ 65535 ∧ L2 w5 (w.heap.size + 2) w.heap.size pe pa pt ob A n c xs s3 v0 (.slice Aa m2 ca) ws bs k wr) (fun i _ => (intOf i).toNat)
            case atStart => exact ⟨m3, rfl, by omega, H0.out⟩
            case round =>
              obtain ⟨k, rfl, hk, s', acc, a, vN, hR, hL, hl, hB⟩ := hrel
              have HR := Lib.hid hR
              have HL := Lib.hid hL
              have HB := Lib.hid hB
              clear hR hL hB H0
              have hce := HR.out.r.ke.cell 0
              have hle := HR.out.r.ke.lt
              by_cases hk0 : k = 0
              · subst hk0
                have HD := Lib.hid (HL.out.mr (.inl rfl))
                go_wp2
                go_meet
                exact ⟨s', acc, a, vN, HR.out, HD.out, by omega, HB.out⟩
              · cases s' with
                | none =>
                  have HD := Lib.hid (HL.out.mr (.inr rfl))
                  have hkp : decide (0 < k) = true := by simp; omega
                  have hkq : 0 < k := by omega
                  go_wp2
                  go_meet
                  exact ⟨none, acc, a, vN, HR.out, HD.out, by omega, HB.out⟩
                | some ys =>
                  obtain ⟨j, rfl⟩ : ∃ j, k = j + 1 := ⟨k - 1, by omega⟩
                  have hkp : decide (0 < j + 1) = true := by simp
                  obtain ⟨tx, t1, ht1, rt0, hb1⟩ := text_split (some ys) HR.out.r.byt
                  obtain ⟨x, t2, ht2, rx0, rx1, hb2⟩ := half_split t1 hb1
                  obtain ⟨b, t3, ht3, rb0, rb1, hb3⟩ := half_split t2 hb2
                  have HW : Hid (nmR (some ys) = (⟨tx, x % 4, b, decide (4 ≤ x)⟩, t3)) := Lib.hid (by unfold nmR; rw [ht1]; dsimp only; rw [ht2]; dsimp only; rw [ht3])
                  have HN2 : Hid (t3 ≠ none → t1 ≠ none) := Lib.hid (fun h => half_stop ht2 (half_stop ht3 h))
                  have HT1 := Lib.hid ht1
                  have HT2 := Lib.hid ht2
                  have HT3 := Lib.hid ht3
                  clear ht1 ht2 ht3 hb1 hb2 hb3
                  go_wp2_with fail
                  refine (text_ro HR.out HT1.out).mono ?_
                  rintro e w1 ⟨a1, tx', rfl, htx, hts, hR1, hB1⟩
                  have HT : Hid (t3 ≠ none → tx' = tx) := Lib.hid (fun h => htx (HN2.out h))
                  have H1 := Lib.hid hR1
                  have HB1 := Lib.hid (HB.out.trans hB1)
                  clear hR1 hB1 hce hle HR HB htx
                  go_upto_region 19 with (fail)
                  have HL1 := Lib.hid (RL.new H1.out #[.string tx', .int .i64 0, .int .i64 0, .bool false] 69)
                  have HB2 := Lib.hid (HB1.out.trans ((Below.refl _ w1).alloc H1.out.low (.cells #[.string tx', .int .i64 0, .int .i64 0, .bool false] 69)))
                  clear H1 HB1
                  generalize w1.alloc (.cells #[.string tx', .int .i64 0, .int .i64 0, .bool false] 69) = w2 at *
                  generalize w1.heap.size = q at *
                  go_wp2_with fail
                  refine (HL1.out.half (.inl rfl) HT2.out).mono ?_
                  rintro e w3 ⟨rfl, a3, hL3, hB3⟩
                  have HL3 := Lib.hid hL3
                  have HB3 := Lib.hid (HB2.out.trans hB3)
                  clear hL3 hB3 HL1 HB2
                  have hck := HL3.out.blk.cell
                  have hlk := HL3.out.blk.lt
                  have hfk := HL3.out.blk.free
                  have hrem : x.tmod 4 = x % 4 := Int.tmod_eq_emod_of_nonneg rx0
                  have HFT : Hid (decide (4 ≤ x) = true → RL (((w3.setCell ⟨q, 1, none⟩ (.int .i64 x)).setCell ⟨q, 1, none⟩ (.int .i64 (x % 4))).setCell ⟨q, 3, none⟩ (.bool true)) (w.heap.size + 2) w.heap.size pe pa pt ob A n c xs q 69 #[.string tx', .int .i64 (x % 4), .int .i64 0, .bool (decide (4 ≤ x))] t2 a3 v0 (.slice Aa m2 ca) vN (.slice none 0 0) ws bs acc [] ∧ Below (w.heap.size + 2) w5 (((w3.setCell ⟨q, 1, none⟩ (.int .i64 x)).setCell ⟨q, 1, none⟩ (.int .i64 (x % 4))).setCell ⟨q, 3, none⟩ (.bool true))) :=
                    Lib.hid (fun hd => by rw [hd]; exact ⟨((HL3.out.set (.inl rfl) 1 (.int .i64 x)).set (.inl rfl) 1 (.int .i64 (x % 4))).set (.inl rfl) 3 (.bool true), ((HB3.out.setCell (p := ⟨q, 1, none⟩) HL3.out.low (.int .i64 x)).setCell (p := ⟨q, 1, none⟩) HL3.out.low (.int .i64 (x % 4))).setCell (p := ⟨q, 3, none⟩) HL3.out.low (.bool true)⟩)
                  have HFF : Hid (decide (4 ≤ x) = false → RL (w3.setCell ⟨q, 1, none⟩ (.int .i64 x)) (w.heap.size + 2) w.heap.size pe pa pt ob A n c xs q 69 #[.string tx', .int .i64 (x % 4), .int .i64 0, .bool (decide (4 ≤ x))] t2 a3 v0 (.slice Aa m2 ca) vN (.slice none 0 0) ws bs acc [] ∧ Below (w.heap.size + 2) w5 (w3.setCell ⟨q, 1, none⟩ (.int .i64 x))) :=
                    Lib.hid (fun hd => by have hx4 : x % 4 = x := by (have h4 : ¬ 4 ≤ x := by simpa using hd); omega
                                          rw [hd, hx4]; exact ⟨HL3.out.set (.inl rfl) 1 (.int .i64 x), HB3.out.setCell (p := ⟨q, 1, none⟩) HL3.out.low (.int .i64 x)⟩)
                  obtain ⟨d4, hd4⟩ : ∃ d, decide (4 ≤ x) = d := ⟨_, rfl⟩
                  cases d4
                  all_goals
                    go_wp2_with fail
                    first | (have hh := HFT.out hd4; generalize (((w3.setCell ⟨q, 1, none⟩ (.int .i64 x)).setCell ⟨q, 1, none⟩ (.int .i64 (x % 4))).setCell ⟨q, 3, none⟩ (.bool true)) = w4 at *) | (have hh := HFF.out hd4; generalize (w3.setCell ⟨q, 1, none⟩ (.int .i64 x)) = w4 at *)
                    have HL4 := Lib.hid hh.1
                    have HB4 := Lib.hid hh.2
                    clear hh HFT HFF hd4 hrem hck hlk hfk HL3 HB3
                    refine (HL4.out.half (.inl rfl) HT3.out).mono ?_
                    rintro e w6 ⟨rfl, a6, hL6, hB6⟩
                    have HL6 := Lib.hid hL6
                    have HB6 := Lib.hid (HB4.out.trans hB6)
                    clear hL6 hB6 HL4 HB4
                    have hck := HL6.out.blk.cell
                    have hlk := HL6.out.blk.lt
                    have hfk := HL6.out.blk.free
                    go_upto_region 23 with (fail)
                    have HL7 := Lib.hid (HL6.out.set (.inl rfl) 2 (.int .i64 b))
                    have HB7 := Lib.hid (HB6.out.setCell (p := ⟨q, 2, none⟩) HL6.out.low (.int .i64 b))
                    clear hck hlk hfk HL6 HB6
                    generalize w6.setCell ⟨q, 2, none⟩ (.int .i64 b) = w8 at *
                    have hck : ∀ j, w8.cell? ⟨q, j, none⟩ = #[Value.string tx', .int .i64 (x % 4), .int .i64 b, .bool (decide (4 ≤ x))][j]? := HL7.out.blk.cell
                    have hlk := HL7.out.blk.lt
                    have hcb := HL7.out.ro.o.blk.cell
                    have hlb := HL7.out.ro.o.blk.lt
                    obtain ⟨A0, c0, rfl, -⟩ := HL7.out.ro.o.oN
                    have HA := Lib.hid (HL7.out.ro.alloc (.cells #[.string tx', .int .i64 (x % 4), .int .i64 b, .bool (decide (4 ≤ x))] 69))
                    have HRD := Lib.hid (ob_reads w8 69 4 1 [.string tx', .int .i64 (x % 4), .int .i64 b, .bool (decide (4 ≤ x))] rfl)
                    go_wp2_with (at_builtin; refine wpList_append_row _ rfl (.tmp 87) (.tmp 89) 36 rfl (w.heap.size + 2) 69 iN (.agg #[.string ByteArray.empty, .int .i64 0, .int .i64 0, .bool false]) 4 40 Try.underlying36 hiN hzN0 hzN1 hzN2 rfl (by decide) (.slice A0 acc.length c0) acc.length (acc.flatMap Nm.cells) rfl HA.out.o.oN.row (w8.heap.size + 1) (some ⟨w8.heap.size, 0, none⟩) 1 1 [.string tx', .int .i64 (x % 4), .int .i64 b, .bool (decide (4 ≤ x))] rfl HRD.out (one_nm tx' (x % 4) b (decide (4 ≤ x))) (by unfold maxLen; omega) (by omega) HA.out.low ?_)
                    intro A9 c9 w9 hr9 hg9 ho9
                    have kb9 := HA.out.o.blk.fr (Fr.of_grown hg9) (fun e => HA.out.o.oN.ne_blk HA.out.o.blk (by decide) e)
                    have k90 := kb9.cell 2
                    have kl9 := kb9.lt
                    have kf9 := kb9.free 2
                    have HP9 := Lib.hid (l2_next HL.out hl HB7.out HA.out HL7.out.ro.low HW.out HT.out rfl hr9 hg9 hts ⟨rx0, rx1⟩ ⟨rb0, rb1⟩)
                    clear kb9 hr9 hg9 ho9
                    go_wp2
                    go_roundw
                    case rel => exact ⟨j, by go_num, by omega, HP9.out⟩
                    case measure => simp [intOf]
          case rest =>
            obtain ⟨s5, ns, a5, vN, hR, hM, hlN, hB⟩ := hcut
            rename World => w11
            have HRb := Lib.hid hR
            have HM2 := Lib.hid hM
            have HBb := Lib.hid hB
            clear hR hM hB H0
            obtain ⟨m4, s6, hs6, ro0, ro1, hb6⟩ := half_split s5 HRb.out.r.byt
            obtain ⟨m4, rfl⟩ : ∃ k : Nat, m4 = k := ⟨m4.toNat, by omega⟩
            have HS6 := Lib.hid hs6
            clear hs6 hb6
            go_wp2_with fail
            refine (half_ro HRb.out HS6.out).mono ?_
            rintro e w12 ⟨rfl, a12, hR12, hB12⟩
            have H0 : Hid (L3 w5 (w.heap.size + 2) w.heap.size pe pa pt ob A n c xs s5 v0 (.slice Aa m2 ca) vN ws bs ns m4 w12) := Lib.hid ⟨s6, [], a12, _, hR12, LR.start _ _ _ _ HS6.out, by simp; omega, HBb.out.trans hB12⟩
            clear hR12 hB12 HRb HBb HS6
            go_upto_block 4 with (fail)
            go_cut [14, 15] (fun _ _ wx => ∃ s' acc a v3, RO wx (w.heap.size + 2) w.heap.size pe pa pt ob A n c xs s' a v0 (.slice Aa m2 ca) vN v3 ws bs ns acc ∧ MR ndR s5 s' acc ∧ acc.length ≤ 65535 ∧ Below (w.heap.size + 2) w5 wx)
            case first =>
              go_wp2_with fail
              go_loopw [14] (fun i wr => ∃ k : Nat, i = .int .i64 k ∧ k ≤ 65535 ∧ L3 w5 (w.heap.size + 2) w.heap.size pe pa pt ob A n c xs s5 v0 (.slice Aa m2 ca) vN ws bs ns k wr) (fun i _ => (intOf i).toNat)
              case atStart => exact ⟨m4, rfl, by omega, H0.out⟩
              case round =>
                obtain ⟨k, rfl, hk, s', acc, a, v3, hR, hL, hl, hB⟩ := hrel
                have HR := Lib.hid hR
                have HL := Lib.hid hL
                have HB := Lib.hid hB
                clear hR hL hB H0
                have hce := HR.out.r.ke.cell 0
                have hle := HR.out.r.ke.lt
                by_cases hk0 : k = 0
                · subst hk0
                  have HD := Lib.hid (HL.out.mr (.inl rfl))
                  go_wp2
                  go_meet
                  exact ⟨s', acc, a, v3, HR.out, HD.out, by omega, HB.out⟩
                · cases s' with
                  | none =>
                    have HD := Lib.hid (HL.out.mr (.inr rfl))
                    have hkp : decide (0 < k) = true := by simp; omega
                    have hkq : 0 < k := by omega
                    go_wp2
                    go_meet
                    exact ⟨none, acc, a, v3, HR.out, HD.out, by omega, HB.out⟩
                  | some ys =>
                    obtain ⟨j, rfl⟩ : ∃ j, k = j + 1 := ⟨k - 1, by omega⟩
                    have hkp : decide (0 < j + 1) = true := by simp
                    obtain ⟨tx, t1, ht1, rt0, hb1⟩ := text_split (some ys) HR.out.r.byt
                    obtain ⟨x, t2, ht2, rx0, rx1, hb2⟩ := half_split t1 hb1
                    obtain ⟨b, t3, ht3, rb0, rb1, hb3⟩ := half_split t2 hb2
                    have HW : Hid (ndR (some ys) = (⟨b, tx, x⟩, t3)) := Lib.hid (by unfold ndR; rw [ht1]; dsimp only; rw [ht2]; dsimp only; rw [ht3])
                    have HN2 : Hid (t3 ≠ none → t1 ≠ none) := Lib.hid (fun h => half_stop ht2 (half_stop ht3 h))
                    have HT1 := Lib.hid ht1
                    have HT2 := Lib.hid ht2
                    have HT3 := Lib.hid ht3
                    clear ht1 ht2 ht3 hb1 hb2 hb3
                    go_wp2_with fail
                    refine (text_ro HR.out HT1.out).mono ?_
                    rintro e w1 ⟨a1, tx', rfl, htx, hts, hR1, hB1⟩
                    have HT : Hid (t3 ≠ none → tx' = tx) := Lib.hid (fun h => htx (HN2.out h))
                    have H1 := Lib.hid hR1
                    have HB1 := Lib.hid (HB.out.trans hB1)
                    clear hR1 hB1 hce hle HR HB htx
                    go_upto_region 28 with (fail)
                    have HL1 := Lib.hid (RL.new H1.out #[.int .i64 0, .string tx', .int .i64 0] 79)
                    have HB2 := Lib.hid (HB1.out.trans ((Below.refl _ w1).alloc H1.out.low (.cells #[.int .i64 0, .string tx', .int .i64 0] 79)))
                    clear H1 HB1
                    generalize w1.alloc (.cells #[.int .i64 0, .string tx', .int .i64 0] 79) = w2 at *
                    generalize w1.heap.size = q at *
                    go_wp2_with fail
                    refine (HL1.out.half (.inr rfl) HT2.out).mono ?_
                    rintro e w3 ⟨rfl, a3, hL3, hB3⟩
                    have HL3 := Lib.hid hL3
                    have HB3 := Lib.hid (HB2.out.trans hB3)
                    clear hL3 hB3 HL1 HB2
                    have hck := HL3.out.blk.cell
                    have hlk := HL3.out.blk.lt
                    have hfk := HL3.out.blk.free
                    go_upto_region 29 with (fail)
                    have HL4 := Lib.hid (HL3.out.set (.inr rfl) 2 (.int .i64 x))
                    have HB4 := Lib.hid (HB3.out.setCell (p := ⟨q, 2, none⟩) HL3.out.low (.int .i64 x))
                    clear hck hlk hfk HL3 HB3
                    generalize w3.setCell ⟨q, 2, none⟩ (.int .i64 x) = w4 at *
                    go_wp2_with fail
                    refine (HL4.out.half (.inr rfl) HT3.out).mono ?_
                    rintro e w6 ⟨rfl, a6, hL6, hB6⟩
                    have HL6 := Lib.hid hL6
                    have HB6 := Lib.hid (HB4.out.trans hB6)
                    clear hL6 hB6 HL4 HB4
                    have hck := HL6.out.blk.cell
                    have hlk := HL6.out.blk.lt
                    have hfk := HL6.out.blk.free
                    go_upto_region 30 with (fail)
                    have HL7 := Lib.hid (HL6.out.set (.inr rfl) 0 (.int .i64 b))
                    have HB7 := Lib.hid (HB6.out.setCell (p := ⟨q, 0, none⟩) HL6.out.low (.int .i64 b))
                    clear hck hlk hfk HL6 HB6
                    generalize w6.setCell ⟨q, 0, none⟩ (.int .i64 b) = w8 at *
                    have hck : ∀ j, w8.cell? ⟨q, j, none⟩ = #[Value.int .i64 b, .string tx', .int .i64 x][j]? := HL7.out.blk.cell
                    have hlk := HL7.out.blk.lt
                    have hcb := HL7.out.ro.o.blk.cell
                    have hlb := HL7.out.ro.o.blk.lt
                    obtain ⟨A0, c0, rfl, -⟩ := HL7.out.ro.o.o3
                    have HA := Lib.hid (HL7.out.ro.alloc (.cells #[.int .i64 b, .string tx', .int .i64 x] 79))
                    have HRD := Lib.hid (ob_reads w8 79 3 1 [.int .i64 b, .string tx', .int .i64 x] rfl)
                    go_wp2_with (at_builtin; refine wpList_append_row _ rfl (.tmp 111) (.tmp 113) 32 rfl (w.heap.size + 2) 79 iD (.agg #[.int .i64 0, .string ByteArray.empty, .int .i64 0]) 3 32 Try.underlying32 hiD hzD0 hzD1 hzD2 rfl (by decide) (.slice A0 acc.length c0) acc.length (acc.flatMap Nd.cells) rfl HA.out.o.o3.row (w8.heap.size + 1) (some ⟨w8.heap.size, 0, none⟩) 1 1 [.int .i64 b, .string tx', .int .i64 x] rfl HRD.out (one_nd1 tx' b x) (by unfold maxLen; omega) (by omega) HA.out.low ?_)
                    intro A9 c9 w9 hr9 hg9 ho9
                    have kb9 := HA.out.o.blk.fr (Fr.of_grown hg9) (fun e => HA.out.o.o3.ne_blk HA.out.o.blk (by decide) e)
                    have k90 := kb9.cell 3
                    have kl9 := kb9.lt
                    have kf9 := kb9.free 3
                    have HP9 := Lib.hid (l3_next HL.out hl HB7.out HA.out HL7.out.ro.low HW.out HT.out rfl hr9 hg9 hts ⟨rx0, rx1⟩ ⟨rb0, rb1⟩)
                    clear kb9 hr9 hg9 ho9
                    go_wp2
                    go_roundw
                    case rel => exact ⟨j, by go_num, by omega, HP9.out⟩
                    case measure => simp [intOf]
            case rest =>
              obtain ⟨sE, ds, aE, v3, hR, hM, hl3, hB⟩ := hcut
              rename World => wc
              have HRc := Lib.hid hR
              have HPT := Lib.hid (parts_of HM1.out HS2.out HS3.out HBS.out HM2.out hM)
              have HZc := Lib.hid (HZ5.out.fr (Fr.of_below hB) (by omega))
              have HBc := Lib.hid (HB5.out.trans (hB.mono (by omega)))
              clear hR hM hB H0 HM1 HM2 HZ5 HB5 HS2 HS3 HBS
              have hce := HRc.out.r.ke.cell 0
              have hle := HRc.out.r.ke.lt
              have hzc := HZc.out.cell
              have hzl := HZc.out.lt
              have hzf := HZc.out.free
              cases sE with
              | none =>
                have HE := Lib.hid (decP_bad (w := w) (w' := set4b wc (w.heap.size + 1) (.slice none 0 0) (.slice none 0 0) (.slice none 0 0) (.slice none 0 0)) (dec_short HSG.out HPT.out.1) (by decide) (HBc.out.trans ((fr4b wc (w.heap.size + 1) _ _ _ _).below HBc.out.size (fun k e => by omega))))
                go_wp2
                exact bodyPost_ret (v := .tuple #[.agg #[.slice none 0 0, .slice none 0 0, .slice none 0 0, .slice none 0 0], .int .i64 21]) (by simp [results, Try.results23, go_sem, hzc, hzl]) rfl HE.out
              | some rest =>
                have HNN : Hid ((parts (some (xs.drop 3))).st ≠ none) := Lib.hid (by rw [HPT.out.1]; simp)
                have HPE := Lib.hid (HPT.out.2 (by simp))
                obtain ⟨X0, e0, rfl, -⟩ := HRc.out.o.o0
                obtain ⟨X2, e2, rfl, -⟩ := HRc.out.o.oN
                obtain ⟨X3, e3, rfl, -⟩ := HRc.out.o.o3
                clear hzc hzl hzf HPT
                obtain ⟨hFull, -, hm8, -, -⟩ := ro_full HRc.out hl0 hbl hlN hl3 (W' := wc) (Fr.refl Nil wc) (fun k h => h.elim)
                have hcap := own_cap HRc.out.o.oN
                have HFIN := Lib.hid (fun (wd : World) (hD : RO wd (w.heap.size + 2) w.heap.size pe pa pt ob A n c xs (some rest) aE (.slice X0 ws.length e0) (.slice Aa m2 ca) (.slice X2 ns.length e2) (.slice X3 ds.length e3) ws bs ns ds) (W' : World) (hf : Fr (fun k => k = w.heap.size + 1) wd W') => (ro_full hD hl0 hbl hlN hl3 (W' := W') hf (fun k h => by omega)).1)
                have HENC := Lib.hid (objBytes_any _ wc wc.heap.size ws bs hFull HRc.out.o.fw (Nat.le_refl _) hcap.1 (by have := hcap.2; unfold maxLen at this; dsimp only; omega))
                clear hFull hcap
                unfold ObjPost at HENC
                obtain ⟨E, hE⟩ : ∃ E, objErr ⟨X0, ws.length, e0, Aa, m2, ca, X2, ns.length, e2, X3, ds.length, e3, ns, ds⟩ = E := ⟨_, rfl⟩
                rw [hE] at HENC
                have HEO : Hid (errOb (parts (some (xs.drop 3))) = E) := Lib.hid (by rw [HPE.out, ← hE, hm8]; rfl)
                have HEN : Hid (encOb (parts (some (xs.drop 3))) = objI ws bs ws.length m2 ns.length ds.length ns ds) := Lib.hid (by rw [HPE.out, hm8]; rfl)
                dsimp only at HENC
                have HM8 := Lib.hid hm8
                clear hE hm8
                have hcb := HRc.out.o.blk.cell
                have hlb := HRc.out.o.blk.lt
                go_wp2_with fail
                refine HENC.out.mono ?_
                rintro e wd ⟨Ar, nr, cr, rfl, hrb, hbd⟩
                have HBd := Lib.hid (HBc.out.trans (hbd.mono HBc.out.size))
                have HZd := Lib.hid (HZc.out.fr (Fr.of_grow hbd) (fun h => h))
                have HRd := Lib.hid (HRc.out.grow hbd)
                clear hcb hlb hbd HENC hce hle
                have hcp := HRd.out.r.kb.cell 0
                have hlp := HRd.out.r.kb.lt
                have hzc := HZd.out.cell
                have hzl := HZd.out.lt
                have hzf := HZd.out.free
                by_cases hz : E = 0
                · subst hz
                  rw [if_pos rfl] at hrb
                  have hbt := hrb.2
                  have hcv1 := hrb.conv (P := Try.prog) cr 35 9 5 Try.underlying35 Try.underlying5 Try.underlying9
                  have hcv2 := HRd.out.r.kr.conv (P := Try.prog) c 35 9 5 Try.underlying35 Try.underlying5 Try.underlying9
                  have HEQ := Lib.hid (strOfNums_beq hbt HRd.out.r.kr.2)
                  have hE0 : ((0 : Int) != 0) = false := by simp
                  clear hrb hbt
                  by_cases hx : objI ws bs ws.length m2 ns.length ds.length ns ds = xs
                  · have HOK := Lib.hid (dec_ok HSG.out HNN.out ⟨HEO.out, HEN.out.trans hx⟩)
                    have hcb := HRd.out.o.blk.cell
                    have hlb := HRd.out.o.blk.lt
                    have HFI := Lib.hid (decP_good (w := w) HOK.out HPE.out (HBd.out.trans ((fr4b wd (w.heap.size + 1) (.slice X0 ws.length e0) (.slice Aa m2 ca) (.slice X2 ns.length e2) (.slice X3 ds.length e3)).below HBd.out.size (fun k e => by omega))) (HFIN.out wd HRd.out _ (fr4b wd (w.heap.size + 1) (.slice X0 ws.length e0) (.slice Aa m2 ca) (.slice X2 ns.length e2) (.slice X3 ds.length e3))))
                    have hdx : decide (objI ws bs ws.length m2 ns.length ds.length ns ds = xs) = true := by simpa using hx
                    have heq := HEQ.out.trans hdx
                    clear hx hdx HEQ
                    go_wp2
                    exact bodyPost_ret (v := .tuple #[.agg #[.slice X0 ws.length e0, .slice Aa m2 ca, .slice X2 ns.length e2, .slice X3 ds.length e3], .int .i64 0]) (by simp [results, Try.results23, go_sem, hzc, hzl]) rfl HFI.out
                  · have hdx : decide (objI ws bs ws.length m2 ns.length ds.length ns ds = xs) = false := by simpa using hx
                    have heq := HEQ.out.trans hdx
                    have HE := Lib.hid (decP_bad (w := w) (w' := set4b wd (w.heap.size + 1) (.slice none 0 0) (.slice none 0 0) (.slice none 0 0) (.slice none 0 0)) (dec_form HSG.out HNN.out (fun h => hx (HEN.out.symm.trans h.2))) (by decide) (HBd.out.trans ((fr4b wd (w.heap.size + 1) _ _ _ _).below HBd.out.size (fun k e => by omega))))
                    clear hx hdx HEQ
                    go_wp2
                    exact bodyPost_ret (v := .tuple #[.agg #[.slice none 0 0, .slice none 0 0, .slice none 0 0, .slice none 0 0], .int .i64 3]) (by simp [results, Try.results23, go_sem, hzc, hzl]) rfl HE.out
                · have HE := Lib.hid (decP_bad (w := w) (w' := set4b wd (w.heap.size + 1) (.slice none 0 0) (.slice none 0 0) (.slice none 0 0) (.slice none 0 0)) (dec_form HSG.out HNN.out (fun h => hz (HEO.out.symm.trans h.1))) (by decide) (HBd.out.trans ((fr4b wd (w.heap.size + 1) _ _ _ _).below HBd.out.size (fun k e => by omega))))
                  have hE' : (E != 0) = true := by simpa using hz
                  clear hz hrb
                  go_wp2
                  exact bodyPost_ret (v := .tuple #[.agg #[.slice none 0 0, .slice none 0 0, .slice none 0 0, .slice none 0 0], .int .i64 3]) (by simp [results, Try.results23, go_sem, hzc, hzl]) rfl HE.out
    · rw [show decide (signed xs) = false by simpa using hsg]
      have HE := Lib.hid (decP_bad (w := w) (w' := set4b w1 (w.heap.size + 1) (.slice none 0 0) (.slice none 0 0) (.slice none 0 0) (.slice none 0 0)) (dec_unsigned hsg) (by decide) (HBA.out.trans ((fr4b w1 (w.heap.size + 1) _ _ _ _).below HBA.out.size (fun k e => by omega))))
      have hzc := HZ1.out.cell
      have hzl := HZ1.out.lt
      have hzf := HZ1.out.free
      go_wp2
      exact bodyPost_ret (v := .tuple #[.agg #[.slice none 0 0, .slice none 0 0, .slice none 0 0, .slice none 0 0], .int .i64 3]) (by simp [results, Try.results23, go_sem, hzc, hzl]) rfl HE.out
  · have hsg : ¬ signed xs := fun hsg => by
      have := congrArg List.length hsg
      simp [HL.out] at this
      omega
    have hd3 : decide ((n : Int) < 3) = true := by simp; omega
    have hi3 : (n : Int) < 3 := by omega
    have HE := Lib.hid (decP_bad (w := w) (w' := set4b _ (w.heap.size + 1) (.slice none 0 0) (.slice none 0 0) (.slice none 0 0) (.slice none 0 0)) (dec_unsigned hsg) (by decide) (HBA.out.trans ((fr4b _ (w.heap.size + 1) _ _ _ _).below HBA.out.size (fun k e => by omega))))
    go_enter Try.func23, Try.ntmps23
    go_upto_if 26 with (fail)
    generalize ((w.alloc (.cells #[.slice A n c] 35)).alloc (.cells #[.slice none 0 0, .slice none 0 0, .slice none 0 0, .slice none 0 0] 38)) = w1 at *
    have hzc := HZ1.out.cell
    have hzl := HZ1.out.lt
    have hzf := HZ1.out.free
    go_wp2
    exact bodyPost_ret (v := .tuple #[.agg #[.slice none 0 0, .slice none 0 0, .slice none 0 0, .slice none 0 0], .int .i64 3]) (by simp [results, Try.results23, go_sem, hzc, hzl]) rfl HE.out
end Go.Proofs.Ytgmpcdonmlhohaa
