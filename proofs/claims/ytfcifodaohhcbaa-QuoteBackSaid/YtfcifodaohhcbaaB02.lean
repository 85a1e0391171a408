/- Part B02 of the proof: contracts of the functions that are walked, and what they compute; no condition. -/
import Derived.Test.YtfcifodaohhcbaaV22
import Derived.Test.YtfcifodaohhcbaaProg
set_option linter.unusedVariables false
set_option linter.unusedSimpArgs false
set_option maxRecDepth 100000
namespace Go.Proofs.Ytfcifodaohhcbaa
open Go.V


theorem Try_mixed : Try.prog.follows .mixedOrders = true := by kernel_rfl
theorem idx_extern (s : List UInt8) (c : UInt8) : ∀ (H : PH) (w : World) (vs : List Value), ConcL H [.str s, .u8 c] vs → ∃ v, (Extern.BytealgIndexByte.indexByte vs.toArray).run Try.prog w = .ok v w ∧ Conc H (.i64 (firstIdx ⟨s.toArray⟩ c)) v := by
  intro H w vs h
  simp only [ConcL] at h
  obtain ⟨u1, _, rfl, h1, u2, _, rfl, h2, rfl⟩ := h
  have e1 := conc_v.1 (show Conc H (.str s) u1 from h1)
  have e2 := conc_v.1 (show Conc H (.u8 c) u2 from h2)
  subst e1 e2
  refine ⟨_, run_indexByte_string _ _ w, conc_v.2 ?_⟩
  simp

theorem idxByte0 (s : List UInt8) (c : UInt8) :
    Fn0 Try.prog 141 [.str s, .u8 c] (.i64 (firstIdx ⟨s.toArray⟩ c)) := by
  refine fn_intro Try.func141 rfl Try.ntmps141 rfl fun H0 fr w0 => ?_
  refine g_seq ?_
  refine g_region ?_
  refine go_p rfl rfl rfl (o_assign rfl) ?_
  refine go_nil ?_
  refine g_seq ?_
  refine g_region ?_
  refine go_p rfl rfl rfl (o_move rfl) ?_
  refine go_p rfl rfl rfl (o_move rfl) ?_
  refine go_p rfl rfl rfl (o_extern (e := Extern.BytealgIndexByte.indexByte) (fun args w => run_callFunc_extern Try.func166 (by kernel_rfl) (by kernel_rfl) (by kernel_rfl) (by kernel_rfl) args w) rfl (idx_extern _ _)) ?_
  refine go_p rfl rfl rfl (o_assign rfl) ?_
  refine go_nil ?_
  refine g_ret ?_
  exact retK (ret_one' rfl (ret_tmp rfl) (perm_drop _)) (by rfl) -- ret1 

theorem idxByte (s : List UInt8) (c : UInt8) :
    Fn0 Try.prog 107 [.str s, .u8 c] (.i64 (firstIdx ⟨s.toArray⟩ c)) := by
  refine fn_intro Try.func107 rfl Try.ntmps107 rfl fun H0 fr w0 => ?_
  refine g_seq ?_
  refine g_region ?_
  refine go_p rfl rfl rfl (o_assign rfl) ?_
  refine go_nil ?_
  refine g_seq ?_
  refine g_region ?_
  refine go_p rfl rfl rfl (o_move rfl) ?_
  refine go_p rfl rfl rfl (o_move rfl) ?_
  refine go_p rfl rfl rfl (o_call0 Try.call141 rfl (idxByte0 _ _)) ?_
  refine go_p rfl rfl rfl (o_assign rfl) ?_
  refine go_nil ?_
  refine g_ret ?_
  exact retK (ret_one' rfl (ret_tmp rfl) (perm_drop _)) (by rfl) -- ret1 

theorem fi_132_0 : FieldIs Try.prog 132 0 0 1 false := ⟨⟨_, _, Try.runUnderlying132, rfl, rfl, Try.sizeOf129, by decide, Try.isAgg129⟩⟩
theorem sb_copyCheck (b : Nat) (p a : Option Addr) (n cap : Nat) (hp : p = none ∨ p = some ⟨b, 0, none⟩) :
    Go.V.Fn Try.prog 108 [.v (.pointer (some ⟨b, 0, none⟩))] [box b 132 [.v (.pointer p), .v (.slice a n cap)]] (fun _ ms' => ms' = [box b 132 [.v (.pointer (some ⟨b, 0, none⟩)), .v (.slice a n cap)]]) := by
  refine fn_intro Try.func108 rfl Try.ntmps108 rfl fun H0 fr w0 => ?_
  refine g_seq ?_
  refine g_region ?_
  refine go_p rfl rfl rfl (o_move rfl) ?_
  refine go_p rfl rfl rfl (o_nilCheck_box rfl) ?_
  refine go_p rfl rfl rfl (o_fieldAddr_box fi_132_0 rfl) ?_
  refine go_p rfl rfl rfl (o_load_box 0 Try.isAgg129 rfl rfl rfl rfl) ?_
  refine go_p rfl rfl rfl (o_eqnil Try.runUnderlying129 rfl (nilP_opt p) rfl) ?_
  refine go_nil ?_
  refine g_cond rfl (fun hc1 => ?_) (fun hc1 => ?_)
  · -- 1T
    skip
    obtain rfl : p = none := by simpa using hc1
    refine g_region ?_
    refine go_p rfl rfl rfl (o_move rfl) ?_
    refine go_p rfl rfl rfl (o_move rfl) ?_
    refine go_p rfl rfl rfl (o_to_unsafe 0 Try.underlying129 Try.underlying202 Try.type132 (by decide) rfl rfl rfl rfl) ?_
    refine go_p rfl rfl rfl (o_extern (e := Extern.AbiNoEscape.same) (fun args w => run_callFunc_extern Try.func142 (by kernel_rfl) (by kernel_rfl) (by kernel_rfl) (by kernel_rfl) args w) rfl (fun H w vs hv => by simp only [ConcL] at hv; obtain ⟨u, _, rfl, hu, rfl⟩ := hv; exact ⟨u, Lib.run_noEscape _ _, hu⟩)) ?_
    refine go_p rfl rfl rfl (o_from_unsafe 0 Try.underlying202 Try.underlying129 Try.type132 rfl rfl rfl rfl (by kernel_rfl)) ?_
    refine go_p rfl rfl rfl (o_nilCheck_box rfl) ?_
    refine go_p rfl rfl rfl (o_fieldAddr_box fi_132_0 rfl) ?_
    refine go_u rfl rfl (o_store_box 0 Try.sizeOf129 rfl rfl rfl rfl rfl rfl rfl rfl (Nat.le_of_ble_eq_true rfl)) ?_
    rintro _ _ rfl
    refine go_nil ?_
    exact retKn (ret_none rfl (perm_none _)) (rfl) -- ret1 1T.
  · -- 1F
    skip
    obtain rfl : p = some ⟨b, 0, none⟩ := by
      rcases hp with h | h
      · rw [h] at hc1; simp at hc1
      · exact h
    refine g_seq ?_
    refine g_region ?_
    refine go_p rfl rfl rfl (o_move rfl) ?_
    refine go_p rfl rfl rfl (o_nilCheck_box rfl) ?_
    refine go_p rfl rfl rfl (o_fieldAddr_box fi_132_0 rfl) ?_
    refine go_p rfl rfl rfl (o_load_box 0 Try.isAgg129 rfl rfl rfl rfl) ?_
    refine go_p rfl rfl rfl (o_move rfl) ?_
    refine go_p rfl rfl rfl (o_neqsame Try.runUnderlying129 Try.sizeOf132 (by decide) rfl rfl) ?_
    refine go_nil ?_
    refine g_cond_false rfl (by rfl) ?_
    refine g_skip ?_
    exact retKn (ret_none rfl (perm_none _)) (rfl) -- ret2 1F.

theorem fi_132_1 : FieldIs Try.prog 132 1 1 1 false := ⟨⟨_, _, Try.runUnderlying132, rfl, rfl, Try.sizeOf130, by decide, Try.isAgg130⟩⟩
theorem sb_WriteByte (b : Nat) (p a : Option Addr) (cap : Nat) (s : List UInt8) (n : Nat) (hn : s.length = n) (hp : p = none ∨ p = some ⟨b, 0, none⟩) (hs : s.length + 1 ≤ 140737488355328) (c : UInt8) (m : Int) (hm : m = c.toNat) :
    Go.V.Fn Try.prog 75 [.v (.pointer (some ⟨b, 0, none⟩)), .v (.int .u8 m)] [box b 132 [.v (.pointer p), .v (.slice a n cap)], row a cap 5 1 D.u8 s] (fun _ ms' => ∃ a' cap', ms' = [box b 132 [.v (.pointer (some ⟨b, 0, none⟩)), .v (.slice a' (s ++ [c]).length cap')], row a' cap' 5 1 D.u8 (s ++ [c])]) := by
  subst hn hm
  refine fn_intro Try.func75 rfl Try.ntmps75 rfl fun H0 fr w0 => ?_
  refine g_seq ?_
  refine g_region ?_
  refine go_p rfl rfl rfl (o_assign rfl) ?_
  refine go_nil ?_
  refine g_seq ?_
  refine g_region ?_
  refine go_p rfl rfl rfl (o_move rfl) ?_
  refine go_op rfl rfl rfl (o_call Try.call108 rfl (List.Perm.refl _) (sb_copyCheck b p a s.length cap hp)) ?_
  rintro _ _ ⟨_, rfl, rfl⟩
  refine go_nil ?_
  refine g_seq ?_
  refine g_region ?_
  refine go_p rfl rfl rfl (o_move rfl) ?_
  refine go_p rfl rfl rfl (o_move rfl) ?_
  refine go_p rfl rfl rfl (o_nilCheck_box rfl) ?_
  refine go_p rfl rfl rfl (o_fieldAddr_box fi_132_1 rfl) ?_
  refine go_p rfl rfl rfl (o_load_box 0 Try.isAgg130 rfl rfl rfl rfl) ?_
  refine go_p rfl rfl rfl (o_move rfl) ?_
  refine go_p rfl rfl rfl (o_buildSlice (xs := [_]) (f := D.u8) (l := [_]) Try.runUnderlying130 Try.sizeOf5 Try.zeroValue5 rfl rfl rfl (fun _ => ⟨rfl, rfl, rfl⟩) rfl) ?_
  refine go_op rfl rfl rfl (o_append (a := _) 1 Try.underlying130 Try.type5 rfl rfl rfl rfl rfl rfl rfl (fun _ => rfl) (fun _ => rfl) (by simp [Try.t5]; omega) (by simp [maxLen]; omega)) ?_
  rintro _ _ ⟨a1, cap1, rfl, rfl⟩
  refine go_p rfl rfl rfl (o_nilCheck_box rfl) ?_
  refine go_p rfl rfl rfl (o_fieldAddr_box fi_132_1 rfl) ?_
  refine go_u rfl rfl (o_store_box 0 Try.sizeOf130 rfl rfl rfl rfl rfl rfl rfl rfl (Nat.le_of_ble_eq_true rfl)) ?_
  rintro _ _ rfl
  refine go_nil ?_
  refine g_seq ?_
  refine g_region ?_
  refine go_p rfl rfl rfl (o_assign rfl) ?_
  refine go_nil ?_
  refine g_ret ?_
  exact retK (ret_one' rfl (ret_tmp rfl) (perm_none _)) (⟨_, _, rfl⟩) -- ret1 

theorem sb_WriteByteC (b : Nat) (p a : Option Addr) (cap : Nat) (s : List UInt8) (n : Nat) (hn : s.length = n) (hp : p = none ∨ p = some ⟨b, 0, none⟩) (hs : s.length + 1 ≤ 140737488355328) (c : UInt8) :
    Go.V.Fn Try.prog 75 [.v (.pointer (some ⟨b, 0, none⟩)), .u8 c] [box b 132 [.v (.pointer p), .v (.slice a n cap)], row a cap 5 1 D.u8 s] (fun _ ms' => ∃ a' cap', ms' = [box b 132 [.v (.pointer (some ⟨b, 0, none⟩)), .v (.slice a' (s ++ [c]).length cap')], row a' cap' 5 1 D.u8 (s ++ [c])]) := sb_WriteByte b p a cap s n hn hp hs c _ rfl

theorem sb_WriteString (b : Nat) (p a : Option Addr) (cap : Nat) (s : List UInt8) (n : Nat) (hn : s.length = n) (hp : p = none ∨ p = some ⟨b, 0, none⟩) (t : List UInt8) (hs : s.length + t.length ≤ 140737488355328) :
    Go.V.Fn Try.prog 78 [.v (.pointer (some ⟨b, 0, none⟩)), .str t] [box b 132 [.v (.pointer p), .v (.slice a n cap)], row a cap 5 1 D.u8 s] (fun _ ms' => ∃ a' cap', ms' = [box b 132 [.v (.pointer (some ⟨b, 0, none⟩)), .v (.slice a' (s ++ t).length cap')], row a' cap' 5 1 D.u8 (s ++ t)]) := by
  subst hn
  refine fn_intro Try.func78 rfl Try.ntmps78 rfl fun H0 fr w0 => ?_
  refine g_seq ?_
  refine g_region ?_
  refine go_p rfl rfl rfl (o_assign rfl) ?_
  refine go_p rfl rfl rfl (o_assign rfl) ?_
  refine go_nil ?_
  refine g_seq ?_
  refine g_region ?_
  refine go_p rfl rfl rfl (o_move rfl) ?_
  refine go_op rfl rfl rfl (o_call Try.call108 rfl (List.Perm.refl _) (sb_copyCheck b p a s.length cap hp)) ?_
  rintro _ _ ⟨_, rfl, rfl⟩
  refine go_nil ?_
  refine g_seq ?_
  refine g_region ?_
  refine go_p rfl rfl rfl (o_move rfl) ?_
  refine go_p rfl rfl rfl (o_move rfl) ?_
  refine go_p rfl rfl rfl (o_nilCheck_box rfl) ?_
  refine go_p rfl rfl rfl (o_fieldAddr_box fi_132_1 rfl) ?_
  refine go_p rfl rfl rfl (o_load_box 0 Try.isAgg130 rfl rfl rfl rfl) ?_
  refine go_p rfl rfl rfl (o_move rfl) ?_
  refine go_op rfl rfl rfl (o_append_str (a := _) 1 Try.underlying130 Try.underlying9 Try.type5 rfl rfl rfl rfl rfl rfl rfl (by omega) (by simp [maxLen]; omega)) ?_
  rintro _ _ ⟨a1, cap1, rfl, rfl⟩
  refine go_p rfl rfl rfl (o_nilCheck_box rfl) ?_
  refine go_p rfl rfl rfl (o_fieldAddr_box fi_132_1 rfl) ?_
  refine go_u rfl rfl (o_store_box 0 Try.sizeOf130 rfl rfl rfl rfl rfl rfl rfl rfl (Nat.le_of_ble_eq_true rfl)) ?_
  rintro _ _ rfl
  refine go_nil ?_
  refine g_seq ?_
  refine g_region ?_
  refine go_p rfl rfl rfl (o_move rfl) ?_
  refine go_p rfl rfl rfl (o_len_str Try.runUnderlying9 rfl) ?_
  refine go_p rfl rfl rfl (o_assign rfl) ?_
  refine go_p rfl rfl rfl (o_assign rfl) ?_
  refine go_nil ?_
  refine g_ret ?_
  exact retK (ret_many (ds := [_, _]) rfl (by decide) ⟨ret_tmp rfl, ⟨ret_tmp rfl, rfl⟩⟩ (perm_none _)) (⟨_, _, rfl⟩) -- ret1 

theorem sb_Len (b : Nat) (p a : Option Addr) (cap : Nat) (s : List UInt8) (n : Nat) (hn : s.length = n) (hp : p = none ∨ p = some ⟨b, 0, none⟩) :
    Go.V.Fn Try.prog 72 [.v (.pointer (some ⟨b, 0, none⟩))] [box b 132 [.v (.pointer p), .v (.slice a n cap)], row a cap 5 1 D.u8 s] (fun r ms' => r = .i64 n ∧ ms' = [box b 132 [.v (.pointer p), .v (.slice a n cap)], row a cap 5 1 D.u8 s]) := by
  subst hn
  refine fn_intro Try.func72 rfl Try.ntmps72 rfl fun H0 fr w0 => ?_
  refine g_seq ?_
  refine g_region ?_
  refine go_p rfl rfl rfl (o_assign rfl) ?_
  refine go_nil ?_
  refine g_seq ?_
  refine g_region ?_
  refine go_p rfl rfl rfl (o_move rfl) ?_
  refine go_p rfl rfl rfl (o_nilCheck_box rfl) ?_
  refine go_p rfl rfl rfl (o_fieldAddr_box fi_132_1 rfl) ?_
  refine go_p rfl rfl rfl (o_load_box 0 Try.isAgg130 rfl rfl rfl rfl) ?_
  refine go_conv (refines_peek (i := 6) 1 rfl rfl rfl) ?_
  refine go_p rfl rfl rfl (o_len Try.runUnderlying130 rfl) ?_
  refine go_p rfl rfl rfl (o_assign rfl) ?_
  refine go_nil ?_
  refine g_ret ?_
  exact retK (ret_one' rfl (ret_tmp rfl) (perm_none _)) (⟨rfl, rfl⟩) -- ret1 

theorem sb_String (b : Nat) (p a : Option Addr) (cap : Nat) (s : List UInt8) (n : Nat) (hn : s.length = n) (hp : p = none ∨ p = some ⟨b, 0, none⟩) (h0 : s = [] → a = none) :
    Go.V.Fn Try.prog 73 [.v (.pointer (some ⟨b, 0, none⟩))] [box b 132 [.v (.pointer p), .v (.slice a n cap)], row a cap 5 1 D.u8 s] (fun r ms' => r = .str s ∧ ms' = []) := by
  subst hn
  refine fn_intro Try.func73 rfl Try.ntmps73 rfl fun H0 fr w0 => ?_
  refine g_seq ?_
  refine g_region ?_
  refine go_p rfl rfl rfl (o_assign rfl) ?_
  refine go_nil ?_
  refine g_seq ?_
  refine g_draw 10 Try_mixed (by decide +kernel) ?_
  refine gd_p rfl rfl rfl (o_move rfl) ?_
  refine gd_p rfl rfl rfl (o_nilCheck_box rfl) ?_
  refine gd_p rfl rfl rfl (o_fieldAddr_box fi_132_1 rfl) ?_
  refine gd_p rfl rfl rfl (o_load_box 0 Try.isAgg130 rfl rfl rfl rfl) ?_
  refine gd_p rfl rfl rfl (o_usd 1 rfl rfl h0) ?_
  refine gd_p rfl rfl rfl (o_move rfl) ?_
  refine gd_p rfl rfl rfl (o_nilCheck_box rfl) ?_
  refine gd_p rfl rfl rfl (o_fieldAddr_box fi_132_1 rfl) ?_
  refine gd_p rfl rfl rfl (o_load_box 0 Try.isAgg130 rfl rfl rfl rfl) ?_
  refine gd_conv (peekE (i := 11) 1 rfl rfl rfl) ?_
  refine gd_p rfl rfl rfl (o_len Try.runUnderlying130 rfl) ?_
  refine gd_nil ?_
  refine go_op rfl rfl rfl (o_unsafeString 1 Try.underlying180 (by kernel_rfl) rfl rfl rfl h0) ?_
  rintro _ _ ⟨rfl, rfl⟩
  refine go_p rfl rfl rfl (o_assign rfl) ?_
  refine go_nil ?_
  refine g_ret ?_
  exact retK (ret_one' rfl (ret_tmp rfl) (perm_drop _)) (⟨rfl, rfl⟩) -- ret1 

theorem w_sb_WriteByte {b : Nat} {a : Option Addr} {s : List UInt8} (c : UInt8) (hs : s.length + 1 ≤ 140737488355328) : Go.V.Fn Try.prog 75 [.v (.pointer (some ⟨b, 0, none⟩)), .u8 c] [bld b 132 5 a s] (fun d ms' => True ∧ ∃ a', ms' = [bld b 132 5 a' (s ++ [c])]) :=
  fn_bld fun p cap hp hl => (sb_WriteByteC b p a cap s s.length rfl hp hs c).mono fun d ms' ⟨a', cap', h⟩ => ⟨_, a', cap', h, .inr rfl, by simp, trivial⟩

theorem w_sb_WriteString {b : Nat} {a : Option Addr} {s : List UInt8} (t : List UInt8) (ht : t ≠ []) (hs : s.length + t.length ≤ 140737488355328) : Go.V.Fn Try.prog 78 [.v (.pointer (some ⟨b, 0, none⟩)), .str t] [bld b 132 5 a s] (fun d ms' => True ∧ ∃ a', ms' = [bld b 132 5 a' (s ++ t)]) :=
  fn_bld fun p cap hp hl => (sb_WriteString b p a cap s s.length rfl hp t hs).mono fun d ms' ⟨a', cap', h⟩ => ⟨_, a', cap', h, .inr rfl, fun e => absurd (List.append_eq_nil_iff.1 e).2 ht, trivial⟩

theorem w_sb_Len {b : Nat} {a : Option Addr} {s : List UInt8} : Go.V.Fn Try.prog 72 [.v (.pointer (some ⟨b, 0, none⟩))] [bld b 132 5 a s] (fun d ms' => d = .i64 s.length ∧ ∃ a', ms' = [bld b 132 5 a' s]) :=
  fn_bld fun p cap hp hl => (sb_Len b p a cap s s.length rfl hp).mono fun d ms' ⟨h1, h2⟩ => ⟨p, a, cap, h2, hp, hl, h1⟩

theorem w_sb_String {b : Nat} {a : Option Addr} {s : List UInt8} : Go.V.Fn Try.prog 73 [.v (.pointer (some ⟨b, 0, none⟩))] [bld b 132 5 a s] (fun d ms' => d = .str s ∧ ms' = []) :=
  fn_bld_end fun p cap hp hl => sb_String b p a cap s s.length rfl hp hl

def m_q_plain (c1 : UInt8) : Option Bool :=
  some ((((decide (32 ≤ (c1.toNat : Int))) && (decide ((c1.toNat : Int) ≤ 126))) && (!decide ((c1.toNat : Int) = 34))) && (!decide ((c1.toNat : Int) = 92)))
theorem w_q_plain {c1 : UInt8} {r : Bool} (hm : m_q_plain c1 = some r) : Fn0 Try.prog 76 [.u8 c1] (.bool r) := by
  unfold m_q_plain at hm
  refine fn_intro Try.func76 rfl Try.ntmps76 rfl fun H0 fr w0 => ?_
  refine g_seq ?_
  refine g_region ?_
  refine go_p rfl rfl rfl (o_assign rfl) ?_
  refine go_nil ?_
  refine g_seq ?_
  refine g_region ?_
  refine go_p rfl rfl rfl (o_move rfl) ?_
  refine go_p rfl rfl rfl (o_cmp rfl rfl rfl) ?_
  refine go_p rfl rfl rfl (o_move rfl) ?_
  apply go_and [(0, _)] 3 8 (t := 5) ⟨rfl, trivial⟩ rfl
  · intro hg_1 hk1
    refine go_wantp rfl rfl rfl hg_1 rfl rfl (o_move rfl) ?_
    refine go_wantp rfl rfl rfl hg_1 rfl rfl (o_cmp rfl rfl rfl) ?_
    refine go_p rfl rfl rfl (o_pickT rfl hg_1 rfl) ?_
    exact go_meet hk1 (rfl) ⟨rfl, trivial⟩
  · intro hg_1 hk1
    refine go_skip rfl rfl rfl hg_1 rfl rfl ?_
    refine go_skip rfl rfl rfl hg_1 rfl rfl ?_
    refine go_p rfl rfl rfl (o_pickF rfl hg_1 rfl) ?_
    exact go_meet hk1 (rfl) ⟨rfl, trivial⟩
  refine go_p rfl rfl rfl (o_move rfl) ?_
  apply go_and [(0, _)] 3 12 (t := 9) ⟨rfl, trivial⟩ rfl
  · intro hg_2 hk2
    refine go_wantp rfl rfl rfl hg_2 rfl rfl (o_move rfl) ?_
    refine go_wantp rfl rfl rfl hg_2 rfl rfl (o_cmp rfl rfl rfl) ?_
    refine go_p rfl rfl rfl (o_pickT rfl hg_2 rfl) ?_
    exact go_meet hk2 (rfl) ⟨rfl, trivial⟩
  · intro hg_2 hk2
    refine go_skip rfl rfl rfl hg_2 rfl rfl ?_
    refine go_skip rfl rfl rfl hg_2 rfl rfl ?_
    refine go_p rfl rfl rfl (o_pickF rfl hg_2 rfl) ?_
    exact go_meet hk2 (rfl) ⟨rfl, trivial⟩
  refine go_p rfl rfl rfl (o_move rfl) ?_
  apply go_and [] 3 16 (t := 13) trivial rfl
  · intro hg_3 hk3
    refine go_wantp rfl rfl rfl hg_3 rfl rfl (o_move rfl) ?_
    refine go_wantp rfl rfl rfl hg_3 rfl rfl (o_cmp rfl rfl rfl) ?_
    refine go_p rfl rfl rfl (o_pickT rfl hg_3 rfl) ?_
    exact go_meet hk3 (rfl) trivial
  · intro hg_3 hk3
    refine go_skip rfl rfl rfl hg_3 rfl rfl ?_
    refine go_skip rfl rfl rfl hg_3 rfl rfl ?_
    refine go_p rfl rfl rfl (o_pickF rfl hg_3 rfl) ?_
    exact go_meet hk3 (rfl) trivial
  refine go_p rfl rfl rfl (o_assign rfl) ?_
  refine go_nil ?_
  refine g_ret ?_
  exact retK (ret_one' rfl (ret_tmp rfl) (perm_drop _)) (congrArg (fun (p : Bool) => (.bool p : D)) (some_eq hm))

def m_q_Cut (s1 : (List UInt8)) : Option (List UInt8) :=
  (sli s1 0 (if 1000 < (s1.length : Int) then 1000 else (s1.length : Int))).bind fun s2 =>
  some s2
theorem w_q_Cut {s1 : (List UInt8)} {r : (List UInt8)} (hm : m_q_Cut s1 = some r) : Fn0 Try.prog 44 [.str s1] (.str r) := by
  unfold m_q_Cut at hm
  refine fn_intro Try.func44 rfl Try.ntmps44 rfl fun H0 fr w0 => ?_
  refine g_seq ?_
  refine g_region ?_
  refine go_p rfl rfl rfl (o_assign rfl) ?_
  refine go_nil ?_
  refine g_seq ?_
  refine g_region ?_
  refine go_p rfl rfl rfl (o_move rfl) ?_
  refine go_p rfl rfl rfl (o_move rfl) ?_
  refine go_p rfl rfl rfl (o_len_str Try.runUnderlying9 rfl) ?_
  refine go_p rfl rfl rfl (o_min rfl rfl) ?_
  obtain ⟨s2, hx1, hm⟩ := bind_some hm
  refine go_p rfl rfl rfl (o_slice_str_m Try.runUnderlying9 rfl rfl ⟨_, rfl⟩ hx1) ?_
  refine go_p rfl rfl rfl (o_assign rfl) ?_
  refine go_nil ?_
  refine g_ret ?_
  exact retK (ret_one' rfl (ret_tmp rfl) (perm_drop _)) (congrArg (fun (p : (List UInt8)) => (.str p : D)) (some_eq hm))

def m_q_Print_l1 (s1 : (List UInt8)) : Nat → (Int × (List UInt8)) → Option (List UInt8)
  | 0, _ => none
  | n + 1, (x1, l2) =>
    bif (decide (x1 < (s1.length : Int))) then
      (idx s1 x1).bind fun c1 =>
      (m_q_plain c1).bind fun x2 =>
      bif x2 then
        grd (l2.length + 1 ≤ 140737488355328) <|
        grd (InR (x1 + 1)) <|
        m_q_Print_l1 s1 n ((x1 + 1), (l2 ++ [c1]))
      else
        bif ((decide ((c1.toNat : Int) = 34)) || (decide ((c1.toNat : Int) = 92))) then
          grd (l2.length + 1 ≤ 140737488355328) <|
          grd ((l2 ++ [(92 : UInt8)]).length + 1 ≤ 140737488355328) <|
          grd (InR (x1 + 1)) <|
          m_q_Print_l1 s1 n ((x1 + 1), ((l2 ++ [(92 : UInt8)]) ++ [c1]))
        else
          bif (decide ((c1.toNat : Int) = 10)) then
            grd (l2.length + ([92, 110] : List UInt8).length ≤ 140737488355328) <|
            grd (InR (x1 + 1)) <|
            m_q_Print_l1 s1 n ((x1 + 1), (l2 ++ ([92, 110] : List UInt8)))
          else
            bif (decide ((c1.toNat : Int) = 9)) then
              grd (l2.length + ([92, 116] : List UInt8).length ≤ 140737488355328) <|
              grd (InR (x1 + 1)) <|
              m_q_Print_l1 s1 n ((x1 + 1), (l2 ++ ([92, 116] : List UInt8)))
            else
              grd (l2.length + ([92, 120] : List UInt8).length ≤ 140737488355328) <|
              (idx ([48, 49, 50, 51, 52, 53, 54, 55, 56, 57, 97, 98, 99, 100, 101, 102] : List UInt8) ((c1 / (16 : UInt8)).toNat : Int)).bind fun c2 =>
              grd ((l2 ++ ([92, 120] : List UInt8)).length + 1 ≤ 140737488355328) <|
              (idx ([48, 49, 50, 51, 52, 53, 54, 55, 56, 57, 97, 98, 99, 100, 101, 102] : List UInt8) ((c1 % (16 : UInt8)).toNat : Int)).bind fun c3 =>
              grd (((l2 ++ ([92, 120] : List UInt8)) ++ [c2]).length + 1 ≤ 140737488355328) <|
              grd (InR (x1 + 1)) <|
              m_q_Print_l1 s1 n ((x1 + 1), (((l2 ++ ([92, 120] : List UInt8)) ++ [c2]) ++ [c3]))
    else
      some l2
def m_q_Print (s1 : (List UInt8)) : Option (List UInt8) :=
  grd (([] : List UInt8).length + 1 ≤ 140737488355328) <|
  (m_q_Print_l1 s1 FU (0, (([] : List UInt8) ++ [(34 : UInt8)])) : Option (List UInt8)).bind fun l1 =>
  grd (l1.length + 1 ≤ 140737488355328) <|
  some (l1 ++ [(34 : UInt8)])
theorem w_q_Print {s1 : (List UInt8)} {r : (List UInt8)} (hm : m_q_Print s1 = some r) : Fn0 Try.prog 42 [.str s1] (.str r) := by
  unfold m_q_Print at hm
  refine fn_intro Try.func42 rfl Try.ntmps42 rfl fun H0 fr w0 => ?_
  refine g_seq ?_
  refine g_region ?_
  refine go_p rfl rfl rfl (o_assign rfl) ?_
  refine go_nil ?_
  refine g_seq ?_
  refine g_region ?_
  refine go_op rfl rfl rfl (o_alloc_own Try.zeroValue132 (cs := [.v (.pointer none), .v (.slice none 0 0)]) rfl) ?_
  rintro _ _ ⟨b1, rfl, rfl⟩
  refine go_conv (refines_newrow (T := 5) (sz := 1) (f := D.u8)) ?_
  refine go_conv refines_bld ?_
  refine go_nil ?_
  refine g_seq ?_
  refine g_region ?_
  obtain ⟨hg1, hm⟩ := grd_some hm
  refine go_op rfl rfl rfl (o_call_bld 0 Try.call75 rfl rfl (w_sb_WriteByte (34 : UInt8) hg1)) ?_
  rintro _ _ ⟨a_bb1, _, rfl⟩
  refine go_nil ?_
  refine g_seq ?_
  refine g_seq ?_
  refine g_region ?_
  refine go_p rfl rfl rfl (o_move rfl) ?_
  refine go_p rfl rfl rfl (o_len_str Try.runUnderlying9 rfl) ?_
  refine go_p rfl rfl rfl (o_move rfl) ?_
  refine go_nil ?_
  obtain ⟨o_1, hj1, hm1⟩ := bind_some hm
  refine g_cut_m [(3, _)] [] (fun (st : (List UInt8)) (hid : (Option Addr)) => match st, hid with | l1, a_bb1 => []) (fun F (st : (List UInt8)) (hid : (Option Addr)) => match st, hid with | l1, a_bb1 => [bld b1 132 5 a_bb1 l1]) (fun st => st = o_1) ⟨rfl, trivial⟩ trivial ?_ ?_
  · skip
    refine g_block ?_
    refine g_loop_m [(0, _), (3, _), (8, _)] [] (fun (st : (Int × (List UInt8))) (hid : (Option Addr)) => match st, hid with | (x1, l2), a_bb1 => [(9, .i64 x1)]) (fun F (st : (Int × (List UInt8))) (hid : (Option Addr)) => match st, hid with | (x1, l2), a_bb1 => [bld b1 132 5 a_bb1 l2]) _ hj1 (fun _ => rfl) ⟨rfl, rfl, rfl, trivial⟩ trivial ⟨rfl, trivial⟩ rfl ?_
    rintro n ⟨x1, l2⟩ a_bb1 hj1
    rw [m_q_Print_l1] at hj1
    refine g_norm (L' := [(9, .i64 x1), (0, _), (3, _), (8, _)]) (ms' := [bld b1 132 5 a_bb1 l2]) rfl rfl ?_
    refine g_seq ?_
    refine g_region ?_
    refine go_p rfl rfl rfl (o_cmp rfl rfl rfl) ?_
    refine go_nil ?_
    refine g_seq ?_
    refine g_cond rfl (fun hc1 => ?_) (fun hc1 => ?_)
    · replace hj1 := cond_t hc1 hj1
      refine g_skip ?_
      refine g_seq ?_
      refine g_block ?_
      refine g_seq ?_
      refine g_region ?_
      refine go_p rfl rfl rfl (o_move rfl) ?_
      refine go_p rfl rfl rfl (o_assign rfl) ?_
      refine go_nil ?_
      refine g_seq ?_
      refine g_region ?_
      refine go_p rfl rfl rfl (o_move rfl) ?_
      refine go_p rfl rfl rfl (o_move rfl) ?_
      obtain ⟨c1, hx2, hj1⟩ := bind_some hj1
      refine go_p rfl rfl rfl (o_index_m Try.runUnderlying9 rfl rfl hx2) ?_
      refine go_p rfl rfl rfl (o_assign rfl) ?_
      refine go_nil ?_
      refine g_block ?_
      refine g_seq ?_
      refine g_region ?_
      refine go_p rfl rfl rfl (o_move rfl) ?_
      obtain ⟨x2, hx3, hj1⟩ := bind_some hj1
      refine go_p rfl rfl rfl (o_call0 Try.call76 rfl (w_q_plain hx3)) ?_
      refine go_p rfl rfl rfl (o_assign rfl) ?_
      refine go_nil ?_
      refine g_cond rfl (fun hc2 => ?_) (fun hc2 => ?_)
      · replace hj1 := cond_t hc2 hj1
        refine g_region ?_
        refine go_p rfl rfl rfl (o_move rfl) ?_
        obtain ⟨hg4, hj1⟩ := grd_some hj1
        refine go_op rfl rfl rfl (o_call_bld 0 Try.call75 rfl rfl (w_sb_WriteByte _ hg4)) ?_
        rintro _ _ ⟨a_bb1, _, rfl⟩
        refine go_nil ?_
        refine g_region ?_
        obtain ⟨hg5, hj1⟩ := grd_some hj1
        refine go_p rfl rfl rfl (o_add rfl rfl (i64_id hg5)) ?_
        refine go_p rfl rfl rfl (o_move rfl) ?_
        refine go_nil ?_
        exact ⟨_, _, hj1, ⟨rfl, trivial⟩, ⟨rfl, rfl, rfl, trivial⟩, [], rfl⟩
      · replace hj1 := cond_f hc2 hj1
        refine g_seq ?_
        refine g_region ?_
        refine go_p rfl rfl rfl (o_move rfl) ?_
        refine go_p rfl rfl rfl (o_cmp rfl rfl rfl) ?_
        refine go_p rfl rfl rfl (o_move rfl) ?_
        apply go_or [(0, _), (3, _), (5, _), (8, _), (9, _)] 3 35 (t := 32) ⟨rfl, rfl, rfl, rfl, rfl, trivial⟩ rfl
        · intro hg_1 hk1
          refine go_wantp rfl rfl rfl hg_1 rfl rfl (o_move rfl) ?_
          refine go_wantp rfl rfl rfl hg_1 rfl rfl (o_cmp rfl rfl rfl) ?_
          refine go_p rfl rfl rfl (o_pickF rfl hg_1 rfl) ?_
          exact go_meet hk1 (rfl) ⟨rfl, rfl, rfl, rfl, rfl, trivial⟩
        · intro hg_1 hk1
          refine go_skip rfl rfl rfl hg_1 rfl rfl ?_
          refine go_skip rfl rfl rfl hg_1 rfl rfl ?_
          refine go_p rfl rfl rfl (o_pickT rfl hg_1 rfl) ?_
          exact go_meet hk1 (rfl) ⟨rfl, rfl, rfl, rfl, rfl, trivial⟩
        refine go_p rfl rfl rfl (o_assign rfl) ?_
        refine go_nil ?_
        refine g_cond rfl (fun hc3 => ?_) (fun hc3 => ?_)
        · replace hj1 := cond_t hc3 hj1
          refine g_seq ?_
          refine g_region ?_
          obtain ⟨hg6, hj1⟩ := grd_some hj1
          refine go_op rfl rfl rfl (o_call_bld 0 Try.call75 rfl rfl (w_sb_WriteByte (92 : UInt8) hg6)) ?_
          rintro _ _ ⟨a_bb1, _, rfl⟩
          refine go_nil ?_
          refine g_region ?_
          refine go_p rfl rfl rfl (o_move rfl) ?_
          obtain ⟨hg7, hj1⟩ := grd_some hj1
          refine go_op rfl rfl rfl (o_call_bld 0 Try.call75 rfl rfl (w_sb_WriteByte _ hg7)) ?_
          rintro _ _ ⟨a_bb1, _, rfl⟩
          refine go_nil ?_
          refine g_region ?_
          obtain ⟨hg8, hj1⟩ := grd_some hj1
          refine go_p rfl rfl rfl (o_add rfl rfl (i64_id hg8)) ?_
          refine go_p rfl rfl rfl (o_move rfl) ?_
          refine go_nil ?_
          exact ⟨_, _, hj1, ⟨rfl, trivial⟩, ⟨rfl, rfl, rfl, trivial⟩, [], rfl⟩
        · replace hj1 := cond_f hc3 hj1
          refine g_seq ?_
          refine g_region ?_
          refine go_p rfl rfl rfl (o_move rfl) ?_
          refine go_p rfl rfl rfl (o_cmp rfl rfl rfl) ?_
          refine go_p rfl rfl rfl (o_assign rfl) ?_
          refine go_nil ?_
          refine g_cond rfl (fun hc4 => ?_) (fun hc4 => ?_)
          · replace hj1 := cond_t hc4 hj1
            refine g_region ?_
            obtain ⟨hg9, hj1⟩ := grd_some hj1
            refine go_op rfl rfl rfl (o_call_bld 0 Try.call78 rfl rfl (w_sb_WriteString ([92, 110] : List UInt8) (by simp) hg9)) ?_
            rintro _ _ ⟨a_bb1, _, rfl⟩
            refine go_nil ?_
            refine g_region ?_
            obtain ⟨hg10, hj1⟩ := grd_some hj1
            refine go_p rfl rfl rfl (o_add rfl rfl (i64_id hg10)) ?_
            refine go_p rfl rfl rfl (o_move rfl) ?_
            refine go_nil ?_
            exact ⟨_, _, hj1, ⟨rfl, trivial⟩, ⟨rfl, rfl, rfl, trivial⟩, [], rfl⟩
          · replace hj1 := cond_f hc4 hj1
            refine g_seq ?_
            refine g_region ?_
            refine go_p rfl rfl rfl (o_move rfl) ?_
            refine go_p rfl rfl rfl (o_cmp rfl rfl rfl) ?_
            refine go_p rfl rfl rfl (o_assign rfl) ?_
            refine go_nil ?_
            refine g_cond rfl (fun hc5 => ?_) (fun hc5 => ?_)
            · replace hj1 := cond_t hc5 hj1
              refine g_region ?_
              obtain ⟨hg11, hj1⟩ := grd_some hj1
              refine go_op rfl rfl rfl (o_call_bld 0 Try.call78 rfl rfl (w_sb_WriteString ([92, 116] : List UInt8) (by simp) hg11)) ?_
              rintro _ _ ⟨a_bb1, _, rfl⟩
              refine go_nil ?_
              refine g_region ?_
              obtain ⟨hg12, hj1⟩ := grd_some hj1
              refine go_p rfl rfl rfl (o_add rfl rfl (i64_id hg12)) ?_
              refine go_p rfl rfl rfl (o_move rfl) ?_
              refine go_nil ?_
              exact ⟨_, _, hj1, ⟨rfl, trivial⟩, ⟨rfl, rfl, rfl, trivial⟩, [], rfl⟩
            · replace hj1 := cond_f hc5 hj1
              refine g_seq ?_
              refine g_region ?_
              obtain ⟨hg13, hj1⟩ := grd_some hj1
              refine go_op rfl rfl rfl (o_call_bld 0 Try.call78 rfl rfl (w_sb_WriteString ([92, 120] : List UInt8) (by simp) hg13)) ?_
              rintro _ _ ⟨a_bb1, _, rfl⟩
              refine go_nil ?_
              refine g_seq ?_
              refine g_region ?_
              refine go_p rfl rfl rfl (o_move rfl) ?_
              refine go_p rfl rfl rfl (o_quo rfl rfl (by decide) (u8_div_w _ (16 : UInt8))) ?_
              obtain ⟨c2, hx14, hj1⟩ := bind_some hj1
              refine go_p rfl rfl rfl (o_index_m Try.runUnderlying9 rfl rfl hx14) ?_
              obtain ⟨hg15, hj1⟩ := grd_some hj1
              refine go_op rfl rfl rfl (o_call_bld 0 Try.call75 rfl rfl (w_sb_WriteByte _ hg15)) ?_
              rintro _ _ ⟨a_bb1, _, rfl⟩
              refine go_nil ?_
              refine g_region ?_
              refine go_p rfl rfl rfl (o_move rfl) ?_
              refine go_p rfl rfl rfl (o_rem_u8 _ (16 : UInt8) rfl rfl (by decide)) ?_
              obtain ⟨c3, hx16, hj1⟩ := bind_some hj1
              refine go_p rfl rfl rfl (o_index_m Try.runUnderlying9 rfl rfl hx16) ?_
              obtain ⟨hg17, hj1⟩ := grd_some hj1
              refine go_op rfl rfl rfl (o_call_bld 0 Try.call75 rfl rfl (w_sb_WriteByte _ hg17)) ?_
              rintro _ _ ⟨a_bb1, _, rfl⟩
              refine go_nil ?_
              refine g_region ?_
              obtain ⟨hg18, hj1⟩ := grd_some hj1
              refine go_p rfl rfl rfl (o_add rfl rfl (i64_id hg18)) ?_
              refine go_p rfl rfl rfl (o_move rfl) ?_
              refine go_nil ?_
              exact ⟨_, _, hj1, ⟨rfl, trivial⟩, ⟨rfl, rfl, rfl, trivial⟩, [], rfl⟩
    · replace hj1 := cond_f hc1 hj1
      refine g_exit ?_
      exact ⟨_, _, some_eq hj1, trivial, ⟨rfl, trivial⟩, [], rfl⟩
  · rintro l1 a_bb1 hst
    subst hst
    refine k_norm (L' := [(3, _)]) (ms' := [bld b1 132 5 a_bb1 l1]) rfl rfl ?_
    refine g_seq ?_
    refine g_region ?_
    obtain ⟨hg19, hm1⟩ := grd_some hm1
    refine go_op rfl rfl rfl (o_call_bld 0 Try.call75 rfl rfl (w_sb_WriteByte (34 : UInt8) hg19)) ?_
    rintro _ _ ⟨a_bb1, _, rfl⟩
    refine go_nil ?_
    refine g_seq ?_
    refine g_region ?_
    refine go_op rfl rfl rfl (o_call_bld_end 0 Try.call73 rfl rfl w_sb_String) ?_
    rintro _ _ ⟨rfl, rfl⟩
    refine go_p rfl rfl rfl (o_assign rfl) ?_
    refine go_nil ?_
    refine g_ret ?_
    exact retK (ret_one' rfl (ret_tmp rfl) (perm_drop _)) (congrArg (fun (p : (List UInt8)) => (.str p : D)) (some_eq hm1))

def m_q_escape (s1 : (List UInt8)) : Option (UInt8 × Int) :=
  bif (decide ((s1 : List UInt8) = ([] : List UInt8))) then
    some ((0 : UInt8), 0)
  else
    (idx s1 0).bind fun c1 =>
    (bif (decide ((c1.toNat : Int) = 34)) then
      some (decide ((c1.toNat : Int) = 34))
    else
      some (decide ((c1.toNat : Int) = 92)) : Option Bool).bind fun x1 =>
    bif x1 then
      (idx s1 0).bind fun c2 =>
      some (c2, 1)
    else
      bif (decide ((c1.toNat : Int) = 110)) then
        some ((10 : UInt8), 1)
      else
        bif (decide ((c1.toNat : Int) = 116)) then
          some ((9 : UInt8), 1)
        else
          bif (decide ((c1.toNat : Int) = 120)) then
            bif (decide ((s1.length : Int) < 3)) then
              some ((0 : UInt8), 0)
            else
              (idx s1 1).bind fun c3 =>
              (idx s1 2).bind fun c4 =>
              bif ((decide ((firstIdx ⟨([48, 49, 50, 51, 52, 53, 54, 55, 56, 57, 97, 98, 99, 100, 101, 102] : List UInt8).toArray⟩ c3) < 0)) || (decide ((firstIdx ⟨([48, 49, 50, 51, 52, 53, 54, 55, 56, 57, 97, 98, 99, 100, 101, 102] : List UInt8).toArray⟩ c4) < 0))) then
                some ((0 : UInt8), 0)
              else
                grd (InR (16 * (firstIdx ⟨([48, 49, 50, 51, 52, 53, 54, 55, 56, 57, 97, 98, 99, 100, 101, 102] : List UInt8).toArray⟩ c3))) <|
                grd (InR ((16 * (firstIdx ⟨([48, 49, 50, 51, 52, 53, 54, 55, 56, 57, 97, 98, 99, 100, 101, 102] : List UInt8).toArray⟩ c3)) + (firstIdx ⟨([48, 49, 50, 51, 52, 53, 54, 55, 56, 57, 97, 98, 99, 100, 101, 102] : List UInt8).toArray⟩ c4))) <|
                some ((toU8 ((16 * (firstIdx ⟨([48, 49, 50, 51, 52, 53, 54, 55, 56, 57, 97, 98, 99, 100, 101, 102] : List UInt8).toArray⟩ c3)) + (firstIdx ⟨([48, 49, 50, 51, 52, 53, 54, 55, 56, 57, 97, 98, 99, 100, 101, 102] : List UInt8).toArray⟩ c4))), 3)
          else
            some ((0 : UInt8), 0)
theorem w_q_escape {s1 : (List UInt8)} {r1 : UInt8} {r2 : Int} (hm : m_q_escape s1 = some (r1, r2)) : Fn0 Try.prog 74 [.str s1] (.tup [.u8 r1, .i64 r2]) := by
  unfold m_q_escape at hm
  refine fn_intro Try.func74 rfl Try.ntmps74 rfl fun H0 fr w0 => ?_
  refine g_seq ?_
  refine g_region ?_
  refine go_p rfl rfl rfl (o_assign rfl) ?_
  refine go_p rfl rfl rfl (o_assign rfl) ?_
  refine go_nil ?_
  refine g_seq ?_
  refine g_seq ?_
  refine g_region ?_
  refine go_p rfl rfl rfl (o_move rfl) ?_
  refine go_p rfl rfl rfl (o_cmps rfl rfl rfl) ?_
  refine go_nil ?_
  refine g_cond rfl (fun hc1 => ?_) (fun hc1 => ?_)
  · replace hm := cond_t hc1 hm
    refine g_seq ?_
    refine g_region ?_
    refine go_p rfl rfl rfl (o_assign rfl) ?_
    refine go_p rfl rfl rfl (o_assign rfl) ?_
    refine go_nil ?_
    refine g_ret ?_
    exact retK (ret_many (ds := [_, _]) rfl (by decide) ⟨ret_tmp rfl, ⟨ret_tmp rfl, rfl⟩⟩ (perm_drop _)) (congrArg (fun (p : (UInt8 × Int)) => D.tup [.u8 p.1, .i64 p.2]) (some_eq hm))
  · replace hm := cond_f hc1 hm
    refine g_skip ?_
    refine g_seq ?_
    refine g_seq ?_
    refine g_region ?_
    refine go_p rfl rfl rfl (o_move rfl) ?_
    obtain ⟨c1, hx1, hm⟩ := bind_some hm
    refine go_p rfl rfl rfl (o_index_m Try.runUnderlying9 rfl rfl hx1) ?_
    refine go_nil ?_
    refine g_block ?_
    refine g_seq ?_
    refine g_seq ?_
    refine g_region ?_
    refine go_p rfl rfl rfl (o_cmp rfl rfl rfl) ?_
    refine go_p rfl rfl rfl (o_assign rfl) ?_
    refine go_nil ?_
    obtain ⟨o_1, hj1, hm1⟩ := bind_some hm
    refine g_cut_m [(0, _), (9, _)] [] (fun (st : Bool) (hid : Unit) => match st, hid with | x1, _ => [(10, .bool x1)]) (fun F (st : Bool) (hid : Unit) => match st, hid with | x1, _ => []) (fun st => st = o_1) ⟨rfl, rfl, trivial⟩ trivial ?_ ?_
    · skip
      refine g_cond rfl (fun hc2 => ?_) (fun hc2 => ?_)
      · replace hj1 := cond_t hc2 hj1
        refine g_skip ?_
        exact ⟨_, (), some_eq hj1, ⟨rfl, trivial⟩, ⟨rfl, rfl, trivial⟩, [], rfl⟩
      · replace hj1 := cond_f hc2 hj1
        refine g_region ?_
        refine go_p rfl rfl rfl (o_cmp rfl rfl rfl) ?_
        refine go_p rfl rfl rfl (o_assign rfl) ?_
        refine go_nil ?_
        exact ⟨_, (), some_eq hj1, ⟨rfl, trivial⟩, ⟨rfl, rfl, trivial⟩, [], rfl⟩
    · rintro x1 _ hst
      subst hst
      refine k_norm (L' := [(10, .bool x1), (0, _), (9, _)]) (ms' := []) rfl rfl ?_
      refine g_cond rfl (fun hc3 => ?_) (fun hc3 => ?_)
      · replace hm1 := cond_t hc3 hm1
        refine g_seq ?_
        refine g_region ?_
        refine go_p rfl rfl rfl (o_move rfl) ?_
        obtain ⟨c2, hx2, hm1⟩ := bind_some hm1
        refine go_p rfl rfl rfl (o_index_m Try.runUnderlying9 rfl rfl hx2) ?_
        refine go_p rfl rfl rfl (o_assign rfl) ?_
        refine go_p rfl rfl rfl (o_assign rfl) ?_
        refine go_nil ?_
        refine g_ret ?_
        exact retK (ret_many (ds := [_, _]) rfl (by decide) ⟨ret_tmp rfl, ⟨ret_tmp rfl, rfl⟩⟩ (perm_drop _)) (congrArg (fun (p : (UInt8 × Int)) => D.tup [.u8 p.1, .i64 p.2]) (some_eq hm1))
      · replace hm1 := cond_f hc3 hm1
        refine g_seq ?_
        refine g_region ?_
        refine go_p rfl rfl rfl (o_cmp rfl rfl rfl) ?_
        refine go_p rfl rfl rfl (o_assign rfl) ?_
        refine go_nil ?_
        refine g_cond rfl (fun hc4 => ?_) (fun hc4 => ?_)
        · replace hm1 := cond_t hc4 hm1
          refine g_seq ?_
          refine g_region ?_
          refine go_p rfl rfl rfl (o_assign rfl) ?_
          refine go_p rfl rfl rfl (o_assign rfl) ?_
          refine go_nil ?_
          refine g_ret ?_
          exact retK (ret_many (ds := [_, _]) rfl (by decide) ⟨ret_tmp rfl, ⟨ret_tmp rfl, rfl⟩⟩ (perm_drop _)) (congrArg (fun (p : (UInt8 × Int)) => D.tup [.u8 p.1, .i64 p.2]) (some_eq hm1))
        · replace hm1 := cond_f hc4 hm1
          refine g_seq ?_
          refine g_region ?_
          refine go_p rfl rfl rfl (o_cmp rfl rfl rfl) ?_
          refine go_p rfl rfl rfl (o_assign rfl) ?_
          refine go_nil ?_
          refine g_cond rfl (fun hc5 => ?_) (fun hc5 => ?_)
          · replace hm1 := cond_t hc5 hm1
            refine g_seq ?_
            refine g_region ?_
            refine go_p rfl rfl rfl (o_assign rfl) ?_
            refine go_p rfl rfl rfl (o_assign rfl) ?_
            refine go_nil ?_
            refine g_ret ?_
            exact retK (ret_many (ds := [_, _]) rfl (by decide) ⟨ret_tmp rfl, ⟨ret_tmp rfl, rfl⟩⟩ (perm_drop _)) (congrArg (fun (p : (UInt8 × Int)) => D.tup [.u8 p.1, .i64 p.2]) (some_eq hm1))
          · replace hm1 := cond_f hc5 hm1
            refine g_seq ?_
            refine g_region ?_
            refine go_p rfl rfl rfl (o_cmp rfl rfl rfl) ?_
            refine go_p rfl rfl rfl (o_assign rfl) ?_
            refine go_nil ?_
            refine g_cond rfl (fun hc6 => ?_) (fun hc6 => ?_)
            · replace hm1 := cond_t hc6 hm1
              refine g_seq ?_
              refine g_seq ?_
              refine g_region ?_
              refine go_p rfl rfl rfl (o_move rfl) ?_
              refine go_p rfl rfl rfl (o_len_str Try.runUnderlying9 rfl) ?_
              refine go_p rfl rfl rfl (o_cmp rfl rfl rfl) ?_
              refine go_nil ?_
              refine g_cond rfl (fun hc7 => ?_) (fun hc7 => ?_)
              · replace hm1 := cond_t hc7 hm1
                refine g_seq ?_
                refine g_region ?_
                refine go_p rfl rfl rfl (o_assign rfl) ?_
                refine go_p rfl rfl rfl (o_assign rfl) ?_
                refine go_nil ?_
                refine g_ret ?_
                exact retK (ret_many (ds := [_, _]) rfl (by decide) ⟨ret_tmp rfl, ⟨ret_tmp rfl, rfl⟩⟩ (perm_drop _)) (congrArg (fun (p : (UInt8 × Int)) => D.tup [.u8 p.1, .i64 p.2]) (some_eq hm1))
              · replace hm1 := cond_f hc7 hm1
                refine g_skip ?_
                refine g_seq ?_
                obtain ⟨c3, hx3, hm1⟩ := bind_some hm1
                obtain ⟨c4, hx4, hm1⟩ := bind_some hm1
                refine g_draw 8 Try_mixed (by decide +kernel) ?_
                refine gd_p rfl rfl rfl (o_move rfl) ?_
                refine gd_p rfl rfl rfl (o_index_m Try.runUnderlying9 rfl rfl hx3) ?_
                refine gd_p rfl rfl rfl (o_call0 Try.call107 rfl (idxByte ([48, 49, 50, 51, 52, 53, 54, 55, 56, 57, 97, 98, 99, 100, 101, 102] : List UInt8) _)) ?_
                refine gd_p rfl rfl rfl (o_move rfl) ?_
                refine gd_p rfl rfl rfl (o_index_m Try.runUnderlying9 rfl rfl hx4) ?_
                refine gd_p rfl rfl rfl (o_call0 Try.call107 rfl (idxByte ([48, 49, 50, 51, 52, 53, 54, 55, 56, 57, 97, 98, 99, 100, 101, 102] : List UInt8) _)) ?_
                refine gd_p rfl rfl rfl (o_assign rfl) ?_
                refine gd_p rfl rfl rfl (o_assign rfl) ?_
                refine gd_nil ?_
                refine go_nil ?_
                refine g_seq ?_
                refine g_seq ?_
                refine g_region ?_
                refine go_p rfl rfl rfl (o_move rfl) ?_
                refine go_p rfl rfl rfl (o_cmp rfl rfl rfl) ?_
                refine go_p rfl rfl rfl (o_move rfl) ?_
                apply go_or [(4, _), (5, _)] 3 35 (t := 32) ⟨rfl, rfl, trivial⟩ rfl
                · intro hg_1 hk1
                  refine go_wantp rfl rfl rfl hg_1 rfl rfl (o_move rfl) ?_
                  refine go_wantp rfl rfl rfl hg_1 rfl rfl (o_cmp rfl rfl rfl) ?_
                  refine go_p rfl rfl rfl (o_pickF rfl hg_1 rfl) ?_
                  exact go_meet hk1 (rfl) ⟨rfl, rfl, trivial⟩
                · intro hg_1 hk1
                  refine go_skip rfl rfl rfl hg_1 rfl rfl ?_
                  refine go_skip rfl rfl rfl hg_1 rfl rfl ?_
                  refine go_p rfl rfl rfl (o_pickT rfl hg_1 rfl) ?_
                  exact go_meet hk1 (rfl) ⟨rfl, rfl, trivial⟩
                refine go_nil ?_
                refine g_cond rfl (fun hc8 => ?_) (fun hc8 => ?_)
                · replace hm1 := cond_t hc8 hm1
                  refine g_seq ?_
                  refine g_region ?_
                  refine go_p rfl rfl rfl (o_assign rfl) ?_
                  refine go_p rfl rfl rfl (o_assign rfl) ?_
                  refine go_nil ?_
                  refine g_ret ?_
                  exact retK (ret_many (ds := [_, _]) rfl (by decide) ⟨ret_tmp rfl, ⟨ret_tmp rfl, rfl⟩⟩ (perm_drop _)) (congrArg (fun (p : (UInt8 × Int)) => D.tup [.u8 p.1, .i64 p.2]) (some_eq hm1))
                · replace hm1 := cond_f hc8 hm1
                  refine g_skip ?_
                  refine g_seq ?_
                  refine g_region ?_
                  refine go_p rfl rfl rfl (o_move rfl) ?_
                  obtain ⟨hg5, hm1⟩ := grd_some hm1
                  refine go_p rfl rfl rfl (o_mul rfl rfl (i64_id hg5)) ?_
                  refine go_p rfl rfl rfl (o_move rfl) ?_
                  obtain ⟨hg6, hm1⟩ := grd_some hm1
                  refine go_p rfl rfl rfl (o_add rfl rfl (i64_id hg6)) ?_
                  refine go_p rfl rfl rfl (o_conv Try.runUnderlying3 Try.runUnderlying5 rfl (toU8_w _)) ?_
                  refine go_p rfl rfl rfl (o_assign rfl) ?_
                  refine go_p rfl rfl rfl (o_assign rfl) ?_
                  refine go_nil ?_
                  refine g_ret ?_
                  exact retK (ret_many (ds := [_, _]) rfl (by decide) ⟨ret_tmp rfl, ⟨ret_tmp rfl, rfl⟩⟩ (perm_drop _)) (congrArg (fun (p : (UInt8 × Int)) => D.tup [.u8 p.1, .i64 p.2]) (some_eq hm1))
            · replace hm1 := cond_f hc6 hm1
              refine g_skip ?_
              refine g_seq ?_
              refine g_region ?_
              refine go_p rfl rfl rfl (o_assign rfl) ?_
              refine go_p rfl rfl rfl (o_assign rfl) ?_
              refine go_nil ?_
              refine g_ret ?_
              exact retK (ret_many (ds := [_, _]) rfl (by decide) ⟨ret_tmp rfl, ⟨ret_tmp rfl, rfl⟩⟩ (perm_drop _)) (congrArg (fun (p : (UInt8 × Int)) => D.tup [.u8 p.1, .i64 p.2]) (some_eq hm1))

def m_q_Take_l1 (s1 : (List UInt8)) : Nat → (Int × (List UInt8)) → Option (Out ((List UInt8) × Int × Int) (List UInt8))
  | 0, _ => none
  | n + 1, (i1, l2) =>
    bif (decide (i1 < (s1.length : Int))) then
      (idx s1 i1).bind fun c2 =>
      bif (decide ((c2.toNat : Int) = 34)) then
        bif (decide (200 < (l2.length : Int))) then
          some (Out.ret (([] : List UInt8), 0, 7))
        else
          grd (InR (i1 + 1)) <|
          some (Out.ret (l2, (i1 + 1), 0))
      else
        bif (decide ((c2.toNat : Int) = 92)) then
          grd (InR (i1 + 1)) <|
          (sli s1 (i1 + 1) (s1.length : Int)).bind fun s2 =>
          (m_q_escape s2).bind fun (x1, x2) =>
          bif (decide (x2 = 0)) then
            some (Out.ret (([] : List UInt8), 0, 5))
          else
            grd (l2.length + 1 ≤ 140737488355328) <|
            grd (InR (x2 + 1)) <|
            grd (InR (i1 + (x2 + 1))) <|
            m_q_Take_l1 s1 n ((i1 + (x2 + 1)), (l2 ++ [x1]))
        else
          (m_q_plain c2).bind fun x3 =>
          bif x3 then
            grd (l2.length + 1 ≤ 140737488355328) <|
            grd (InR (i1 + 1)) <|
            m_q_Take_l1 s1 n ((i1 + 1), (l2 ++ [c2]))
          else
            some (Out.ret (([] : List UInt8), 0, 5))
    else
      some (Out.go (l2))
def m_q_Take (s1 : (List UInt8)) : Option ((List UInt8) × Int × Int) :=
  (bif (decide ((s1 : List UInt8) = ([] : List UInt8))) then (some true) else ((idx s1 0).bind fun c1 =>
  some (!decide ((c1.toNat : Int) = 34)))).bind fun p1 =>
  bif p1 then
    some (([] : List UInt8), 0, 5)
  else
    ((m_q_Take_l1 s1 FU (1, ([] : List UInt8)) : Option (Out ((List UInt8) × Int × Int) (List UInt8)))).bind (fun oo => oo.on (fun r1 => some r1) (fun l1 =>
    some (([] : List UInt8), 0, 5)))
theorem w_q_Take {s1 : (List UInt8)} {r1 : (List UInt8)} {r2 : Int} {r3 : Int} (hm : m_q_Take s1 = some (r1, r2, r3)) : Fn0 Try.prog 38 [.str s1] (.tup [.str r1, .i64 r2, .i64 r3]) := by
  unfold m_q_Take at hm
  refine fn_intro Try.func38 rfl Try.ntmps38 rfl fun H0 fr w0 => ?_
  refine g_seq ?_
  refine g_region ?_
  refine go_p rfl rfl rfl (o_assign rfl) ?_
  refine go_p rfl rfl rfl (o_assign rfl) ?_
  refine go_p rfl rfl rfl (o_assign rfl) ?_
  refine go_nil ?_
  refine g_seq ?_
  refine g_seq ?_
  refine g_region ?_
  refine go_p rfl rfl rfl (o_move rfl) ?_
  refine go_p rfl rfl rfl (o_cmps rfl rfl rfl) ?_
  refine go_p rfl rfl rfl (o_move rfl) ?_
  obtain ⟨p1, hp_1, hm⟩ := bind_some hm
  refine go_two [(0, _)] 4 16 p1 (t := 12) ⟨rfl, trivial⟩ rfl (fun hg_1 hk1 => ?_) (fun hg_1 hk1 => ?_) ?_
  · replace hp_1 := cond_t hg_1 hp_1
    refine go_skip rfl rfl rfl hg_1 rfl rfl ?_
    refine go_skip rfl rfl rfl hg_1 rfl rfl ?_
    refine go_skip rfl rfl rfl hg_1 rfl rfl ?_
    refine go_p rfl rfl rfl (o_pickT rfl hg_1 rfl) ?_
    exact go_meet hk1 (congrArg (fun b => some (D.bool b)) (some_eq hp_1)) ⟨rfl, trivial⟩
  · replace hp_1 := cond_f hg_1 hp_1
    refine go_wantp rfl rfl rfl hg_1 rfl rfl (o_move rfl) ?_
    obtain ⟨c1, hx1, hp_1⟩ := bind_some hp_1
    refine go_wantp rfl rfl rfl hg_1 rfl rfl (o_index_m Try.runUnderlying9 rfl rfl hx1) ?_
    refine go_wantp rfl rfl rfl hg_1 rfl rfl (o_cmp rfl rfl rfl) ?_
    refine go_p rfl rfl rfl (o_pickF rfl hg_1 rfl) ?_
    exact go_meet hk1 (congrArg (fun b => some (D.bool b)) (some_eq hp_1)) ⟨rfl, trivial⟩
  refine go_nil ?_
  refine g_cond rfl (fun hc1 => ?_) (fun hc1 => ?_)
  · replace hm := cond_t hc1 hm
    refine g_seq ?_
    refine g_region ?_
    refine go_p rfl rfl rfl (o_assign rfl) ?_
    refine go_p rfl rfl rfl (o_assign rfl) ?_
    refine go_p rfl rfl rfl (o_assign rfl) ?_
    refine go_nil ?_
    refine g_ret ?_
    exact retK (ret_many (ds := [_, _, _]) rfl (by decide) ⟨ret_tmp rfl, ⟨ret_tmp rfl, ⟨ret_tmp rfl, rfl⟩⟩⟩ (perm_drop _)) (congrArg (fun (p : ((List UInt8) × Int × Int)) => D.tup [.str p.1, .i64 p.2.1, .i64 p.2.2]) (some_eq hm))
  · replace hm := cond_f hc1 hm
    refine g_skip ?_
    refine g_seq ?_
    refine g_region ?_
    refine go_op rfl rfl rfl (o_alloc_own Try.zeroValue132 (cs := [.v (.pointer none), .v (.slice none 0 0)]) rfl) ?_
    rintro _ _ ⟨b1, rfl, rfl⟩
    refine go_conv (refines_newrow (T := 5) (sz := 1) (f := D.u8)) ?_
    refine go_conv refines_bld ?_
    refine go_nil ?_
    refine g_seq ?_
    refine g_seq ?_
    refine g_region ?_
    refine go_p rfl rfl rfl (o_assign rfl) ?_
    refine go_nil ?_
    obtain ⟨o_1, hj1, hm1⟩ := bind_some hm
    refine g_cut_m [] [] (fun (st : (List UInt8)) (hid : (Option Addr)) => match st, hid with | l1, a_bb1 => []) (fun F (st : (List UInt8)) (hid : (Option Addr)) => match st, hid with | l1, a_bb1 => [bld b1 132 5 a_bb1 l1]) (fun st => Out.go (st) = o_1) trivial trivial ?_ ?_
    · skip
      refine g_block ?_
      refine g_loop_m [(0, _), (5, _)] [] (fun (st : (Int × (List UInt8))) (hid : (Option Addr)) => match st, hid with | (i1, l2), a_bb1 => [(6, .i64 i1)]) (fun F (st : (Int × (List UInt8))) (hid : (Option Addr)) => match st, hid with | (i1, l2), a_bb1 => [bld b1 132 5 a_bb1 l2]) _ hj1 (fun _ => rfl) ⟨rfl, rfl, trivial⟩ trivial ⟨rfl, trivial⟩ rfl ?_
      rintro n ⟨i1, l2⟩ a_bb1 hj1
      rw [m_q_Take_l1] at hj1
      refine g_norm (L' := [(6, .i64 i1), (0, _), (5, _)]) (ms' := [bld b1 132 5 a_bb1 l2]) rfl rfl ?_
      refine g_seq ?_
      refine g_seq ?_
      refine g_region ?_
      refine go_p rfl rfl rfl (o_move rfl) ?_
      refine go_p rfl rfl rfl (o_move rfl) ?_
      refine go_p rfl rfl rfl (o_len_str Try.runUnderlying9 rfl) ?_
      refine go_p rfl rfl rfl (o_cmp rfl rfl rfl) ?_
      refine go_nil ?_
      refine g_cond rfl (fun hc2 => ?_) (fun hc2 => ?_)
      · replace hj1 := cond_t hc2 hj1
        refine g_skip ?_
        refine g_block ?_
        refine g_seq ?_
        refine g_region ?_
        refine go_p rfl rfl rfl (o_move rfl) ?_
        refine go_p rfl rfl rfl (o_move rfl) ?_
        obtain ⟨c2, hx2, hj1⟩ := bind_some hj1
        refine go_p rfl rfl rfl (o_index_m Try.runUnderlying9 rfl rfl hx2) ?_
        refine go_p rfl rfl rfl (o_assign rfl) ?_
        refine go_nil ?_
        refine g_block ?_
        refine g_seq ?_
        refine g_region ?_
        refine go_p rfl rfl rfl (o_move rfl) ?_
        refine go_p rfl rfl rfl (o_cmp rfl rfl rfl) ?_
        refine go_p rfl rfl rfl (o_assign rfl) ?_
        refine go_nil ?_
        refine g_cond rfl (fun hc3 => ?_) (fun hc3 => ?_)
        · replace hj1 := cond_t hc3 hj1
          refine g_seq ?_
          refine g_seq ?_
          refine g_region ?_
          refine go_op rfl rfl rfl (o_call_bld 0 Try.call72 rfl rfl w_sb_Len) ?_
          rintro _ _ ⟨a_bb1, rfl, rfl⟩
          refine go_p rfl rfl rfl (o_cmp rfl rfl rfl) ?_
          refine go_nil ?_
          refine g_cond rfl (fun hc4 => ?_) (fun hc4 => ?_)
          · replace hj1 := cond_t hc4 hj1
            refine g_seq ?_
            refine g_region ?_
            refine go_p rfl rfl rfl (o_assign rfl) ?_
            refine go_p rfl rfl rfl (o_assign rfl) ?_
            refine go_p rfl rfl rfl (o_assign rfl) ?_
            refine go_nil ?_
            refine g_ret ?_
            obtain rfl := some_eq hj1
            replace hm1 := on_ret hm1
            exact retK (ret_many (ds := [_, _, _]) rfl (by decide) ⟨ret_tmp rfl, ⟨ret_tmp rfl, ⟨ret_tmp rfl, rfl⟩⟩⟩ (perm_drop _)) (congrArg (fun (p : ((List UInt8) × Int × Int)) => D.tup [.str p.1, .i64 p.2.1, .i64 p.2.2]) (some_eq hm1))
          · replace hj1 := cond_f hc4 hj1
            refine g_skip ?_
            refine g_seq ?_
            refine g_region ?_
            refine go_op rfl rfl rfl (o_call_bld_end 0 Try.call73 rfl rfl w_sb_String) ?_
            rintro _ _ ⟨rfl, rfl⟩
            refine go_p rfl rfl rfl (o_move rfl) ?_
            obtain ⟨hg3, hj1⟩ := grd_some hj1
            refine go_p rfl rfl rfl (o_add rfl rfl (i64_id hg3)) ?_
            refine go_p rfl rfl rfl (o_assign rfl) ?_
            refine go_p rfl rfl rfl (o_assign rfl) ?_
            refine go_p rfl rfl rfl (o_assign rfl) ?_
            refine go_nil ?_
            refine g_ret ?_
            obtain rfl := some_eq hj1
            replace hm1 := on_ret hm1
            exact retK (ret_many (ds := [_, _, _]) rfl (by decide) ⟨ret_tmp rfl, ⟨ret_tmp rfl, ⟨ret_tmp rfl, rfl⟩⟩⟩ (perm_drop _)) (congrArg (fun (p : ((List UInt8) × Int × Int)) => D.tup [.str p.1, .i64 p.2.1, .i64 p.2.2]) (some_eq hm1))
        · replace hj1 := cond_f hc3 hj1
          refine g_seq ?_
          refine g_region ?_
          refine go_p rfl rfl rfl (o_move rfl) ?_
          refine go_p rfl rfl rfl (o_cmp rfl rfl rfl) ?_
          refine go_p rfl rfl rfl (o_assign rfl) ?_
          refine go_nil ?_
          refine g_cond rfl (fun hc5 => ?_) (fun hc5 => ?_)
          · replace hj1 := cond_t hc5 hj1
            refine g_seq ?_
            refine g_region ?_
            refine go_p rfl rfl rfl (o_move rfl) ?_
            refine go_p rfl rfl rfl (o_move rfl) ?_
            obtain ⟨hg4, hj1⟩ := grd_some hj1
            refine go_p rfl rfl rfl (o_add rfl rfl (i64_id hg4)) ?_
            obtain ⟨s2, hx5, hj1⟩ := bind_some hj1
            refine go_p rfl rfl rfl (o_slice_str_m Try.runUnderlying9 rfl ⟨_, rfl⟩ rfl hx5) ?_
            obtain ⟨⟨x1, x2⟩, hx6, hj1⟩ := bind_some hj1
            refine go_p rfl rfl rfl (o_call0 Try.call74 rfl (w_q_escape hx6)) ?_
            refine go_p rfl rfl rfl (o_move rfl) ?_
            refine go_p rfl rfl rfl (o_extract rfl rfl) ?_
            refine go_p rfl rfl rfl (o_extract rfl rfl) ?_
            refine go_p rfl rfl rfl (o_assign rfl) ?_
            refine go_p rfl rfl rfl (o_assign rfl) ?_
            refine go_nil ?_
            refine g_seq ?_
            refine g_seq ?_
            refine g_region ?_
            refine go_p rfl rfl rfl (o_move rfl) ?_
            refine go_p rfl rfl rfl (o_cmp rfl rfl rfl) ?_
            refine go_nil ?_
            refine g_cond rfl (fun hc6 => ?_) (fun hc6 => ?_)
            · replace hj1 := cond_t hc6 hj1
              refine g_seq ?_
              refine g_region ?_
              refine go_p rfl rfl rfl (o_assign rfl) ?_
              refine go_p rfl rfl rfl (o_assign rfl) ?_
              refine go_p rfl rfl rfl (o_assign rfl) ?_
              refine go_nil ?_
              refine g_ret ?_
              obtain rfl := some_eq hj1
              replace hm1 := on_ret hm1
              exact retK (ret_many (ds := [_, _, _]) rfl (by decide) ⟨ret_tmp rfl, ⟨ret_tmp rfl, ⟨ret_tmp rfl, rfl⟩⟩⟩ (perm_drop _)) (congrArg (fun (p : ((List UInt8) × Int × Int)) => D.tup [.str p.1, .i64 p.2.1, .i64 p.2.2]) (some_eq hm1))
            · replace hj1 := cond_f hc6 hj1
              refine g_skip ?_
              refine g_seq ?_
              refine g_region ?_
              refine go_p rfl rfl rfl (o_move rfl) ?_
              obtain ⟨hg7, hj1⟩ := grd_some hj1
              refine go_op rfl rfl rfl (o_call_bld 0 Try.call75 rfl rfl (w_sb_WriteByte _ hg7)) ?_
              rintro _ _ ⟨a_bb1, _, rfl⟩
              refine go_nil ?_
              refine g_region ?_
              refine go_p rfl rfl rfl (o_move rfl) ?_
              refine go_p rfl rfl rfl (o_move rfl) ?_
              obtain ⟨hg8, hj1⟩ := grd_some hj1
              refine go_p rfl rfl rfl (o_add rfl rfl (i64_id hg8)) ?_
              obtain ⟨hg9, hj1⟩ := grd_some hj1
              refine go_p rfl rfl rfl (o_add rfl rfl (i64_id hg9)) ?_
              refine go_p rfl rfl rfl (o_assign rfl) ?_
              refine go_nil ?_
              exact ⟨_, _, hj1, ⟨rfl, trivial⟩, ⟨rfl, rfl, trivial⟩, [], rfl⟩
          · replace hj1 := cond_f hc5 hj1
            refine g_seq ?_
            refine g_region ?_
            refine go_p rfl rfl rfl (o_move rfl) ?_
            obtain ⟨x3, hx10, hj1⟩ := bind_some hj1
            refine go_p rfl rfl rfl (o_call0 Try.call76 rfl (w_q_plain hx10)) ?_
            refine go_p rfl rfl rfl (o_assign rfl) ?_
            refine go_nil ?_
            refine g_cond rfl (fun hc7 => ?_) (fun hc7 => ?_)
            · replace hj1 := cond_t hc7 hj1
              refine g_seq ?_
              refine g_region ?_
              refine go_p rfl rfl rfl (o_move rfl) ?_
              obtain ⟨hg11, hj1⟩ := grd_some hj1
              refine go_op rfl rfl rfl (o_call_bld 0 Try.call75 rfl rfl (w_sb_WriteByte _ hg11)) ?_
              rintro _ _ ⟨a_bb1, _, rfl⟩
              refine go_nil ?_
              refine g_region ?_
              refine go_p rfl rfl rfl (o_move rfl) ?_
              obtain ⟨hg12, hj1⟩ := grd_some hj1
              refine go_p rfl rfl rfl (o_add rfl rfl (i64_id hg12)) ?_
              refine go_p rfl rfl rfl (o_assign rfl) ?_
              refine go_nil ?_
              exact ⟨_, _, hj1, ⟨rfl, trivial⟩, ⟨rfl, rfl, trivial⟩, [], rfl⟩
            · replace hj1 := cond_f hc7 hj1
              refine g_seq ?_
              refine g_region ?_
              refine go_p rfl rfl rfl (o_assign rfl) ?_
              refine go_p rfl rfl rfl (o_assign rfl) ?_
              refine go_p rfl rfl rfl (o_assign rfl) ?_
              refine go_nil ?_
              refine g_ret ?_
              obtain rfl := some_eq hj1
              replace hm1 := on_ret hm1
              exact retK (ret_many (ds := [_, _, _]) rfl (by decide) ⟨ret_tmp rfl, ⟨ret_tmp rfl, ⟨ret_tmp rfl, rfl⟩⟩⟩ (perm_drop _)) (congrArg (fun (p : ((List UInt8) × Int × Int)) => D.tup [.str p.1, .i64 p.2.1, .i64 p.2.2]) (some_eq hm1))
      · replace hj1 := cond_f hc2 hj1
        refine g_exit ?_
        exact ⟨_, _, some_eq hj1, trivial, trivial, [], rfl⟩
    · rintro l1 a_bb1 hst
      subst hst
      replace hm1 := on_go hm1
      refine k_norm (L' := []) (ms' := [bld b1 132 5 a_bb1 l1]) rfl rfl ?_
      refine g_seq ?_
      refine g_region ?_
      refine go_p rfl rfl rfl (o_assign rfl) ?_
      refine go_p rfl rfl rfl (o_assign rfl) ?_
      refine go_p rfl rfl rfl (o_assign rfl) ?_
      refine go_nil ?_
      refine g_ret ?_
      exact retK (ret_many (ds := [_, _, _]) rfl (by decide) ⟨ret_tmp rfl, ⟨ret_tmp rfl, ⟨ret_tmp rfl, rfl⟩⟩⟩ (perm_drop _)) (congrArg (fun (p : ((List UInt8) × Int × Int)) => D.tup [.str p.1, .i64 p.2.1, .i64 p.2.2]) (some_eq hm1))

def m_q_Parse (s1 : (List UInt8)) : Option ((List UInt8) × Int) :=
  (m_q_Take s1).bind fun (x1, x2, x3) =>
  bif (!decide (x3 = 0)) then
    some (([] : List UInt8), x3)
  else
    bif (!decide (x2 = (s1.length : Int))) then
      some (([] : List UInt8), 5)
    else
      some (x1, x3)
theorem w_q_Parse {s1 : (List UInt8)} {r1 : (List UInt8)} {r2 : Int} (hm : m_q_Parse s1 = some (r1, r2)) : Fn0 Try.prog 40 [.str s1] (.tup [.str r1, .i64 r2]) := by
  unfold m_q_Parse at hm
  refine fn_intro Try.func40 rfl Try.ntmps40 rfl fun H0 fr w0 => ?_
  refine g_seq ?_
  refine g_region ?_
  refine go_p rfl rfl rfl (o_assign rfl) ?_
  refine go_p rfl rfl rfl (o_assign rfl) ?_
  refine go_nil ?_
  refine g_seq ?_
  refine g_region ?_
  refine go_p rfl rfl rfl (o_move rfl) ?_
  obtain ⟨⟨x1, x2, x3⟩, hx1, hm⟩ := bind_some hm
  refine go_p rfl rfl rfl (o_call0 Try.call38 rfl (w_q_Take hx1)) ?_
  refine go_p rfl rfl rfl (o_move rfl) ?_
  refine go_p rfl rfl rfl (o_extract rfl rfl) ?_
  refine go_p rfl rfl rfl (o_extract rfl rfl) ?_
  refine go_p rfl rfl rfl (o_extract rfl rfl) ?_
  refine go_p rfl rfl rfl (o_assign rfl) ?_
  refine go_p rfl rfl rfl (o_assign rfl) ?_
  refine go_p rfl rfl rfl (o_assign rfl) ?_
  refine go_nil ?_
  refine g_seq ?_
  refine g_block ?_
  refine g_seq ?_
  refine g_region ?_
  refine go_p rfl rfl rfl (o_move rfl) ?_
  refine go_p rfl rfl rfl (o_cmp rfl rfl rfl) ?_
  refine go_p rfl rfl rfl (o_assign rfl) ?_
  refine go_nil ?_
  refine g_cond rfl (fun hc1 => ?_) (fun hc1 => ?_)
  · replace hm := cond_t hc1 hm
    refine g_seq ?_
    refine g_region ?_
    refine go_p rfl rfl rfl (o_move rfl) ?_
    refine go_p rfl rfl rfl (o_assign rfl) ?_
    refine go_p rfl rfl rfl (o_assign rfl) ?_
    refine go_nil ?_
    refine g_ret ?_
    exact retK (ret_many (ds := [_, _]) rfl (by decide) ⟨ret_tmp rfl, ⟨ret_tmp rfl, rfl⟩⟩ (perm_drop _)) (congrArg (fun (p : ((List UInt8) × Int)) => D.tup [.str p.1, .i64 p.2]) (some_eq hm))
  · replace hm := cond_f hc1 hm
    refine g_seq ?_
    refine g_region ?_
    refine go_p rfl rfl rfl (o_move rfl) ?_
    refine go_p rfl rfl rfl (o_move rfl) ?_
    refine go_p rfl rfl rfl (o_len_str Try.runUnderlying9 rfl) ?_
    refine go_p rfl rfl rfl (o_cmp rfl rfl rfl) ?_
    refine go_p rfl rfl rfl (o_assign rfl) ?_
    refine go_nil ?_
    refine g_cond rfl (fun hc2 => ?_) (fun hc2 => ?_)
    · replace hm := cond_t hc2 hm
      refine g_seq ?_
      refine g_region ?_
      refine go_p rfl rfl rfl (o_assign rfl) ?_
      refine go_p rfl rfl rfl (o_assign rfl) ?_
      refine go_nil ?_
      refine g_ret ?_
      exact retK (ret_many (ds := [_, _]) rfl (by decide) ⟨ret_tmp rfl, ⟨ret_tmp rfl, rfl⟩⟩ (perm_drop _)) (congrArg (fun (p : ((List UInt8) × Int)) => D.tup [.str p.1, .i64 p.2]) (some_eq hm))
    · replace hm := cond_f hc2 hm
      refine g_skip ?_
      refine g_seq ?_
      refine g_region ?_
      refine go_p rfl rfl rfl (o_move rfl) ?_
      refine go_p rfl rfl rfl (o_move rfl) ?_
      refine go_p rfl rfl rfl (o_assign rfl) ?_
      refine go_p rfl rfl rfl (o_assign rfl) ?_
      refine go_nil ?_
      refine g_ret ?_
      exact retK (ret_many (ds := [_, _]) rfl (by decide) ⟨ret_tmp rfl, ⟨ret_tmp rfl, rfl⟩⟩ (perm_drop _)) (congrArg (fun (p : ((List UInt8) × Int)) => D.tup [.str p.1, .i64 p.2]) (some_eq hm))

def m_r_hex (c1 : UInt8) : Option Int :=
  bif ((decide (48 ≤ (c1.toNat : Int))) && (decide ((c1.toNat : Int) ≤ 57))) then
    some ((c1 - (48 : UInt8)).toNat : Int)
  else
    bif ((decide (97 ≤ (c1.toNat : Int))) && (decide ((c1.toNat : Int) ≤ 102))) then
      grd (InR (((c1 - (97 : UInt8)).toNat : Int) + 10)) <|
      some (((c1 - (97 : UInt8)).toNat : Int) + 10)
    else
      some (-1)
theorem w_r_hex {c1 : UInt8} {r : Int} (hm : m_r_hex c1 = some r) : Fn0 Try.prog 77 [.u8 c1] (.i64 r) := by
  unfold m_r_hex at hm
  refine fn_intro Try.func77 rfl Try.ntmps77 rfl fun H0 fr w0 => ?_
  refine g_seq ?_
  refine g_region ?_
  refine go_p rfl rfl rfl (o_assign rfl) ?_
  refine go_nil ?_
  refine g_seq ?_
  refine g_seq ?_
  refine g_region ?_
  refine go_p rfl rfl rfl (o_move rfl) ?_
  refine go_p rfl rfl rfl (o_cmp rfl rfl rfl) ?_
  refine go_p rfl rfl rfl (o_move rfl) ?_
  apply go_and [(0, _)] 3 8 (t := 5) ⟨rfl, trivial⟩ rfl
  · intro hg_1 hk1
    refine go_wantp rfl rfl rfl hg_1 rfl rfl (o_move rfl) ?_
    refine go_wantp rfl rfl rfl hg_1 rfl rfl (o_cmp rfl rfl rfl) ?_
    refine go_p rfl rfl rfl (o_pickT rfl hg_1 rfl) ?_
    exact go_meet hk1 (rfl) ⟨rfl, trivial⟩
  · intro hg_1 hk1
    refine go_skip rfl rfl rfl hg_1 rfl rfl ?_
    refine go_skip rfl rfl rfl hg_1 rfl rfl ?_
    refine go_p rfl rfl rfl (o_pickF rfl hg_1 rfl) ?_
    exact go_meet hk1 (rfl) ⟨rfl, trivial⟩
  refine go_nil ?_
  refine g_cond rfl (fun hc1 => ?_) (fun hc1 => ?_)
  · replace hm := cond_t hc1 hm
    refine g_seq ?_
    refine g_region ?_
    refine go_p rfl rfl rfl (o_move rfl) ?_
    refine go_p rfl rfl rfl (o_sub rfl rfl (u8_sub_w _ (48 : UInt8))) ?_
    refine go_p rfl rfl rfl (o_conv Try.runUnderlying5 Try.runUnderlying3 rfl (i64_u8 _)) ?_
    refine go_p rfl rfl rfl (o_assign rfl) ?_
    refine go_nil ?_
    refine g_ret ?_
    exact retK (ret_one' rfl (ret_tmp rfl) (perm_drop _)) (congrArg (fun (p : Int) => (.i64 p : D)) (some_eq hm))
  · replace hm := cond_f hc1 hm
    refine g_skip ?_
    refine g_seq ?_
    refine g_seq ?_
    refine g_region ?_
    refine go_p rfl rfl rfl (o_move rfl) ?_
    refine go_p rfl rfl rfl (o_cmp rfl rfl rfl) ?_
    refine go_p rfl rfl rfl (o_move rfl) ?_
    apply go_and [(0, _)] 3 17 (t := 14) ⟨rfl, trivial⟩ rfl
    · intro hg_2 hk2
      refine go_wantp rfl rfl rfl hg_2 rfl rfl (o_move rfl) ?_
      refine go_wantp rfl rfl rfl hg_2 rfl rfl (o_cmp rfl rfl rfl) ?_
      refine go_p rfl rfl rfl (o_pickT rfl hg_2 rfl) ?_
      exact go_meet hk2 (rfl) ⟨rfl, trivial⟩
    · intro hg_2 hk2
      refine go_skip rfl rfl rfl hg_2 rfl rfl ?_
      refine go_skip rfl rfl rfl hg_2 rfl rfl ?_
      refine go_p rfl rfl rfl (o_pickF rfl hg_2 rfl) ?_
      exact go_meet hk2 (rfl) ⟨rfl, trivial⟩
    refine go_nil ?_
    refine g_cond rfl (fun hc2 => ?_) (fun hc2 => ?_)
    · replace hm := cond_t hc2 hm
      refine g_seq ?_
      refine g_region ?_
      refine go_p rfl rfl rfl (o_move rfl) ?_
      refine go_p rfl rfl rfl (o_sub rfl rfl (u8_sub_w _ (97 : UInt8))) ?_
      refine go_p rfl rfl rfl (o_conv Try.runUnderlying5 Try.runUnderlying3 rfl (i64_u8 _)) ?_
      obtain ⟨hg1, hm⟩ := grd_some hm
      refine go_p rfl rfl rfl (o_add rfl rfl (i64_id hg1)) ?_
      refine go_p rfl rfl rfl (o_assign rfl) ?_
      refine go_nil ?_
      refine g_ret ?_
      exact retK (ret_one' rfl (ret_tmp rfl) (perm_drop _)) (congrArg (fun (p : Int) => (.i64 p : D)) (some_eq hm))
    · replace hm := cond_f hc2 hm
      refine g_skip ?_
      refine g_seq ?_
      refine g_region ?_
      refine go_p rfl rfl rfl (o_assign rfl) ?_
      refine go_nil ?_
      refine g_ret ?_
      exact retK (ret_one' rfl (ret_tmp rfl) (perm_drop _)) (congrArg (fun (p : Int) => (.i64 p : D)) (some_eq hm))

def m_r_Print_l1 (s1 : (List UInt8)) : Nat → ((List UInt8) × Int) → Option (List UInt8)
  | 0, _ => none
  | n + 1, (out2, i1) =>
    bif (decide (i1 < (s1.length : Int))) then
      (idx s1 i1).bind fun c1 =>
      bif (decide ((c1.toNat : Int) = 34)) then
        grd (out2.length + ([92, 34] : List UInt8).length ≤ 9223372036854775807) <|
        grd (InR (i1 + 1)) <|
        m_r_Print_l1 s1 n ((out2 ++ ([92, 34] : List UInt8)), (i1 + 1))
      else
        bif (decide ((c1.toNat : Int) = 92)) then
          grd (out2.length + ([92, 92] : List UInt8).length ≤ 9223372036854775807) <|
          grd (InR (i1 + 1)) <|
          m_r_Print_l1 s1 n ((out2 ++ ([92, 92] : List UInt8)), (i1 + 1))
        else
          bif (decide ((c1.toNat : Int) = 10)) then
            grd (out2.length + ([92, 110] : List UInt8).length ≤ 9223372036854775807) <|
            grd (InR (i1 + 1)) <|
            m_r_Print_l1 s1 n ((out2 ++ ([92, 110] : List UInt8)), (i1 + 1))
          else
            bif (decide ((c1.toNat : Int) = 9)) then
              grd (out2.length + ([92, 116] : List UInt8).length ≤ 9223372036854775807) <|
              grd (InR (i1 + 1)) <|
              m_r_Print_l1 s1 n ((out2 ++ ([92, 116] : List UInt8)), (i1 + 1))
            else
              bif ((decide (32 ≤ (c1.toNat : Int))) && (decide ((c1.toNat : Int) ≤ 126))) then
                grd (out2.length + [c1].length ≤ 9223372036854775807) <|
                grd (InR (i1 + 1)) <|
                m_r_Print_l1 s1 n ((out2 ++ [c1]), (i1 + 1))
              else
                (idx ([48, 49, 50, 51, 52, 53, 54, 55, 56, 57, 97, 98, 99, 100, 101, 102] : List UInt8) ((c1 / (16 : UInt8)).toNat : Int)).bind fun c2 =>
                (idx ([48, 49, 50, 51, 52, 53, 54, 55, 56, 57, 97, 98, 99, 100, 101, 102] : List UInt8) ((c1 % (16 : UInt8)).toNat : Int)).bind fun c3 =>
                grd (([92, 120] : List UInt8).length + [c2, c3].length ≤ 9223372036854775807) <|
                grd (out2.length + (([92, 120] : List UInt8) ++ [c2, c3]).length ≤ 9223372036854775807) <|
                grd (InR (i1 + 1)) <|
                m_r_Print_l1 s1 n ((out2 ++ (([92, 120] : List UInt8) ++ [c2, c3])), (i1 + 1))
    else
      some out2
def m_r_Print (s1 : (List UInt8)) : Option (List UInt8) :=
  (m_r_Print_l1 s1 FU (([34] : List UInt8), 0) : Option (List UInt8)).bind fun out1 =>
  grd (out1.length + ([34] : List UInt8).length ≤ 9223372036854775807) <|
  some (out1 ++ ([34] : List UInt8))
theorem w_r_Print {s1 : (List UInt8)} {r : (List UInt8)} (hm : m_r_Print s1 = some r) : Fn0 Try.prog 43 [.str s1] (.str r) := by
  unfold m_r_Print at hm
  refine fn_intro Try.func43 rfl Try.ntmps43 rfl fun H0 fr w0 => ?_
  refine g_seq ?_
  refine g_region ?_
  refine go_p rfl rfl rfl (o_assign rfl) ?_
  refine go_nil ?_
  refine g_seq ?_
  refine g_region ?_
  refine go_p rfl rfl rfl (o_assign rfl) ?_
  refine go_nil ?_
  refine g_seq ?_
  refine g_seq ?_
  refine g_region ?_
  refine go_p rfl rfl rfl (o_assign rfl) ?_
  refine go_nil ?_
  obtain ⟨o_1, hj1, hm1⟩ := bind_some hm
  refine g_cut_m [] [] (fun (st : (List UInt8)) (hid : Unit) => match st, hid with | out1, _ => [(3, .str out1)]) (fun F (st : (List UInt8)) (hid : Unit) => match st, hid with | out1, _ => []) (fun st => st = o_1) trivial trivial ?_ ?_
  · skip
    refine g_block ?_
    refine g_loop_m [(0, _)] [] (fun (st : ((List UInt8) × Int)) (hid : Unit) => match st, hid with | (out2, i1), _ => [(3, .str out2), (4, .i64 i1)]) (fun F (st : ((List UInt8) × Int)) (hid : Unit) => match st, hid with | (out2, i1), _ => []) () hj1 (fun _ => rfl) ⟨rfl, trivial⟩ trivial ⟨rfl, rfl, trivial⟩ rfl ?_
    rintro n ⟨out2, i1⟩ _ hj1
    rw [m_r_Print_l1] at hj1
    refine g_norm (L' := [(3, .str out2), (4, .i64 i1), (0, _)]) (ms' := []) rfl rfl ?_
    refine g_seq ?_
    refine g_seq ?_
    refine g_region ?_
    refine go_p rfl rfl rfl (o_move rfl) ?_
    refine go_p rfl rfl rfl (o_move rfl) ?_
    refine go_p rfl rfl rfl (o_len_str Try.runUnderlying9 rfl) ?_
    refine go_p rfl rfl rfl (o_cmp rfl rfl rfl) ?_
    refine go_nil ?_
    refine g_cond rfl (fun hc1 => ?_) (fun hc1 => ?_)
    · replace hj1 := cond_t hc1 hj1
      refine g_skip ?_
      refine g_seq ?_
      refine g_block ?_
      refine g_seq ?_
      refine g_region ?_
      refine go_p rfl rfl rfl (o_move rfl) ?_
      refine go_p rfl rfl rfl (o_move rfl) ?_
      obtain ⟨c1, hx1, hj1⟩ := bind_some hj1
      refine go_p rfl rfl rfl (o_index_m Try.runUnderlying9 rfl rfl hx1) ?_
      refine go_p rfl rfl rfl (o_assign rfl) ?_
      refine go_nil ?_
      refine g_block ?_
      refine g_seq ?_
      refine g_region ?_
      refine go_p rfl rfl rfl (o_move rfl) ?_
      refine go_p rfl rfl rfl (o_cmp rfl rfl rfl) ?_
      refine go_p rfl rfl rfl (o_assign rfl) ?_
      refine go_nil ?_
      refine g_cond rfl (fun hc2 => ?_) (fun hc2 => ?_)
      · replace hj1 := cond_t hc2 hj1
        refine g_region ?_
        refine go_p rfl rfl rfl (o_move rfl) ?_
        obtain ⟨hg2, hj1⟩ := grd_some hj1
        refine go_p rfl rfl rfl (o_cat rfl rfl hg2) ?_
        refine go_p rfl rfl rfl (o_assign rfl) ?_
        refine go_nil ?_
        refine g_region ?_
        refine go_p rfl rfl rfl (o_move rfl) ?_
        obtain ⟨hg3, hj1⟩ := grd_some hj1
        refine go_p rfl rfl rfl (o_add rfl rfl (i64_id hg3)) ?_
        refine go_p rfl rfl rfl (o_assign rfl) ?_
        refine go_nil ?_
        exact ⟨_, (), hj1, ⟨rfl, rfl, trivial⟩, ⟨rfl, trivial⟩, [], rfl⟩
      · replace hj1 := cond_f hc2 hj1
        refine g_seq ?_
        refine g_region ?_
        refine go_p rfl rfl rfl (o_move rfl) ?_
        refine go_p rfl rfl rfl (o_cmp rfl rfl rfl) ?_
        refine go_p rfl rfl rfl (o_assign rfl) ?_
        refine go_nil ?_
        refine g_cond rfl (fun hc3 => ?_) (fun hc3 => ?_)
        · replace hj1 := cond_t hc3 hj1
          refine g_region ?_
          refine go_p rfl rfl rfl (o_move rfl) ?_
          obtain ⟨hg4, hj1⟩ := grd_some hj1
          refine go_p rfl rfl rfl (o_cat rfl rfl hg4) ?_
          refine go_p rfl rfl rfl (o_assign rfl) ?_
          refine go_nil ?_
          refine g_region ?_
          refine go_p rfl rfl rfl (o_move rfl) ?_
          obtain ⟨hg5, hj1⟩ := grd_some hj1
          refine go_p rfl rfl rfl (o_add rfl rfl (i64_id hg5)) ?_
          refine go_p rfl rfl rfl (o_assign rfl) ?_
          refine go_nil ?_
          exact ⟨_, (), hj1, ⟨rfl, rfl, trivial⟩, ⟨rfl, trivial⟩, [], rfl⟩
        · replace hj1 := cond_f hc3 hj1
          refine g_seq ?_
          refine g_region ?_
          refine go_p rfl rfl rfl (o_move rfl) ?_
          refine go_p rfl rfl rfl (o_cmp rfl rfl rfl) ?_
          refine go_p rfl rfl rfl (o_assign rfl) ?_
          refine go_nil ?_
          refine g_cond rfl (fun hc4 => ?_) (fun hc4 => ?_)
          · replace hj1 := cond_t hc4 hj1
            refine g_region ?_
            refine go_p rfl rfl rfl (o_move rfl) ?_
            obtain ⟨hg6, hj1⟩ := grd_some hj1
            refine go_p rfl rfl rfl (o_cat rfl rfl hg6) ?_
            refine go_p rfl rfl rfl (o_assign rfl) ?_
            refine go_nil ?_
            refine g_region ?_
            refine go_p rfl rfl rfl (o_move rfl) ?_
            obtain ⟨hg7, hj1⟩ := grd_some hj1
            refine go_p rfl rfl rfl (o_add rfl rfl (i64_id hg7)) ?_
            refine go_p rfl rfl rfl (o_assign rfl) ?_
            refine go_nil ?_
            exact ⟨_, (), hj1, ⟨rfl, rfl, trivial⟩, ⟨rfl, trivial⟩, [], rfl⟩
          · replace hj1 := cond_f hc4 hj1
            refine g_seq ?_
            refine g_region ?_
            refine go_p rfl rfl rfl (o_move rfl) ?_
            refine go_p rfl rfl rfl (o_cmp rfl rfl rfl) ?_
            refine go_p rfl rfl rfl (o_assign rfl) ?_
            refine go_nil ?_
            refine g_cond rfl (fun hc5 => ?_) (fun hc5 => ?_)
            · replace hj1 := cond_t hc5 hj1
              refine g_region ?_
              refine go_p rfl rfl rfl (o_move rfl) ?_
              obtain ⟨hg8, hj1⟩ := grd_some hj1
              refine go_p rfl rfl rfl (o_cat rfl rfl hg8) ?_
              refine go_p rfl rfl rfl (o_assign rfl) ?_
              refine go_nil ?_
              refine g_region ?_
              refine go_p rfl rfl rfl (o_move rfl) ?_
              obtain ⟨hg9, hj1⟩ := grd_some hj1
              refine go_p rfl rfl rfl (o_add rfl rfl (i64_id hg9)) ?_
              refine go_p rfl rfl rfl (o_assign rfl) ?_
              refine go_nil ?_
              exact ⟨_, (), hj1, ⟨rfl, rfl, trivial⟩, ⟨rfl, trivial⟩, [], rfl⟩
            · replace hj1 := cond_f hc5 hj1
              refine g_seq ?_
              refine g_region ?_
              refine go_p rfl rfl rfl (o_move rfl) ?_
              refine go_p rfl rfl rfl (o_cmp rfl rfl rfl) ?_
              refine go_p rfl rfl rfl (o_move rfl) ?_
              apply go_and [(0, _), (3, _), (4, _), (5, _)] 3 55 (t := 52) ⟨rfl, rfl, rfl, rfl, trivial⟩ rfl
              · intro hg_1 hk1
                refine go_wantp rfl rfl rfl hg_1 rfl rfl (o_move rfl) ?_
                refine go_wantp rfl rfl rfl hg_1 rfl rfl (o_cmp rfl rfl rfl) ?_
                refine go_p rfl rfl rfl (o_pickT rfl hg_1 rfl) ?_
                exact go_meet hk1 (rfl) ⟨rfl, rfl, rfl, rfl, trivial⟩
              · intro hg_1 hk1
                refine go_skip rfl rfl rfl hg_1 rfl rfl ?_
                refine go_skip rfl rfl rfl hg_1 rfl rfl ?_
                refine go_p rfl rfl rfl (o_pickF rfl hg_1 rfl) ?_
                exact go_meet hk1 (rfl) ⟨rfl, rfl, rfl, rfl, trivial⟩
              refine go_p rfl rfl rfl (o_assign rfl) ?_
              refine go_nil ?_
              refine g_cond rfl (fun hc6 => ?_) (fun hc6 => ?_)
              · replace hj1 := cond_t hc6 hj1
                refine g_region ?_
                refine go_p rfl rfl rfl (o_move rfl) ?_
                refine go_p rfl rfl rfl (o_move rfl) ?_
                refine go_p rfl rfl rfl (o_buildSlice (xs := [_]) (f := D.u8) (l := [_]) Try.runUnderlying130 Try.sizeOf5 Try.zeroValue5 rfl rfl rfl (fun _ => ⟨rfl, rfl, rfl⟩) rfl) ?_
                refine go_p rfl rfl rfl (o_bytes_str Try.underlying130 Try.underlying5 Try.underlying9 rfl) ?_
                obtain ⟨hg10, hj1⟩ := grd_some hj1
                refine go_p rfl rfl rfl (o_cat rfl rfl hg10) ?_
                refine go_p rfl rfl rfl (o_assign rfl) ?_
                refine go_nil ?_
                refine g_region ?_
                refine go_p rfl rfl rfl (o_move rfl) ?_
                obtain ⟨hg11, hj1⟩ := grd_some hj1
                refine go_p rfl rfl rfl (o_add rfl rfl (i64_id hg11)) ?_
                refine go_p rfl rfl rfl (o_assign rfl) ?_
                refine go_nil ?_
                exact ⟨_, (), hj1, ⟨rfl, rfl, trivial⟩, ⟨rfl, trivial⟩, [], rfl⟩
              · replace hj1 := cond_f hc6 hj1
                refine g_seq ?_
                refine g_region ?_
                refine go_p rfl rfl rfl (o_assign rfl) ?_
                refine go_nil ?_
                obtain ⟨c2, hx12, hj1⟩ := bind_some hj1
                obtain ⟨c3, hx13, hj1⟩ := bind_some hj1
                obtain ⟨hg14, hj1⟩ := grd_some hj1
                obtain ⟨hg15, hj1⟩ := grd_some hj1
                refine g_draw 14 Try_mixed (by decide +kernel) ?_
                refine gd_p rfl rfl rfl (o_move rfl) ?_
                refine gd_p rfl rfl rfl (o_move rfl) ?_
                refine gd_p rfl rfl rfl (o_move rfl) ?_
                refine gd_p rfl rfl rfl (o_quo rfl rfl (by decide) (u8_div_w _ (16 : UInt8))) ?_
                refine gd_p rfl rfl rfl (o_index_m Try.runUnderlying9 rfl rfl hx12) ?_
                refine gd_p rfl rfl rfl (o_move rfl) ?_
                refine gd_p rfl rfl rfl (o_move rfl) ?_
                refine gd_p rfl rfl rfl (o_rem_u8 _ (16 : UInt8) rfl rfl (by decide)) ?_
                refine gd_p rfl rfl rfl (o_index_m Try.runUnderlying9 rfl rfl hx13) ?_
                refine gd_p rfl rfl rfl (o_buildSlice (xs := [_, _]) (f := D.u8) (l := [_, _]) Try.runUnderlying130 Try.sizeOf5 Try.zeroValue5 rfl rfl rfl (fun _ => ⟨rfl, rfl, rfl⟩) rfl) ?_
                refine gd_p rfl rfl rfl (o_bytes_str Try.underlying130 Try.underlying5 Try.underlying9 rfl) ?_
                refine gd_p rfl rfl rfl (o_cat rfl rfl hg14) ?_
                refine gd_p rfl rfl rfl (o_cat rfl rfl hg15) ?_
                refine gd_p rfl rfl rfl (o_assign rfl) ?_
                refine gd_nil ?_
                refine go_nil ?_
                refine g_region ?_
                refine go_p rfl rfl rfl (o_move rfl) ?_
                obtain ⟨hg16, hj1⟩ := grd_some hj1
                refine go_p rfl rfl rfl (o_add rfl rfl (i64_id hg16)) ?_
                refine go_p rfl rfl rfl (o_assign rfl) ?_
                refine go_nil ?_
                exact ⟨_, (), hj1, ⟨rfl, rfl, trivial⟩, ⟨rfl, trivial⟩, [], rfl⟩
    · replace hj1 := cond_f hc1 hj1
      refine g_exit ?_
      exact ⟨_, (), some_eq hj1, ⟨rfl, trivial⟩, trivial, [], rfl⟩
  · rintro out1 _ hst
    subst hst
    refine k_norm (L' := [(3, .str out1)]) (ms' := []) rfl rfl ?_
    refine g_seq ?_
    refine g_region ?_
    refine go_p rfl rfl rfl (o_move rfl) ?_
    obtain ⟨hg17, hm1⟩ := grd_some hm1
    refine go_p rfl rfl rfl (o_cat rfl rfl hg17) ?_
    refine go_p rfl rfl rfl (o_assign rfl) ?_
    refine go_nil ?_
    refine g_ret ?_
    exact retK (ret_one' rfl (ret_tmp rfl) (perm_drop _)) (congrArg (fun (p : (List UInt8)) => (.str p : D)) (some_eq hm1))

def m_r_Take_l1 (s1 : (List UInt8)) : Nat → (Int × (List UInt8)) → Option (Out ((List UInt8) × Int × Int) (Int × (List UInt8)))
  | 0, _ => none
  | n + 1, (i2, l2) =>
    (bif (decide (i2 < (s1.length : Int))) then ((idx s1 i2).bind fun c2 =>
    some (!decide ((c2.toNat : Int) = 34))) else (some false)).bind fun p2 =>
    bif p2 then
      (idx s1 i2).bind fun c3 =>
      bif ((decide ((c3.toNat : Int) < 32)) || (decide (126 < (c3.toNat : Int)))) then
        some (Out.ret (([] : List UInt8), 0, 5))
      else
        bif (!decide ((c3.toNat : Int) = 92)) then
          grd ((l2.length + ([c3] : List _).length) * 1 ≤ 140737488355328) <|
          grd (InR (i2 + 1)) <|
          m_r_Take_l1 s1 n ((i2 + 1), (l2 ++ [c3]))
        else
          grd (InR (i2 + 1)) <|
          bif (decide ((s1.length : Int) ≤ (i2 + 1))) then
            some (Out.ret (([] : List UInt8), 0, 5))
          else
            grd (InR (i2 + 1)) <|
            (idx s1 (i2 + 1)).bind fun c4 =>
            grd (InR (i2 + 2)) <|
            (bif (decide ((c4.toNat : Int) = 34)) then
              some (decide ((c4.toNat : Int) = 34))
            else
              some (decide ((c4.toNat : Int) = 92)) : Option Bool).bind fun x1 =>
            bif x1 then
              grd ((l2.length + ([c4] : List _).length) * 1 ≤ 140737488355328) <|
              m_r_Take_l1 s1 n ((i2 + 2), (l2 ++ [c4]))
            else
              bif (decide ((c4.toNat : Int) = 110)) then
                grd ((l2.length + ([(10 : UInt8)] : List _).length) * 1 ≤ 140737488355328) <|
                m_r_Take_l1 s1 n ((i2 + 2), (l2 ++ [(10 : UInt8)]))
              else
                bif (decide ((c4.toNat : Int) = 116)) then
                  grd ((l2.length + ([(9 : UInt8)] : List _).length) * 1 ≤ 140737488355328) <|
                  m_r_Take_l1 s1 n ((i2 + 2), (l2 ++ [(9 : UInt8)]))
                else
                  bif (decide ((c4.toNat : Int) = 120)) then
                    grd (InR ((i2 + 2) + 1)) <|
                    (bif (decide ((s1.length : Int) ≤ ((i2 + 2) + 1))) then (some true) else ((idx s1 (i2 + 2)).bind fun c5 =>
                    (m_r_hex c5).bind fun x2 =>
                    some (decide (x2 < 0)))).bind fun p3 =>
                    (bif p3 then (some true) else (grd (InR ((i2 + 2) + 1)) <|
                    (idx s1 ((i2 + 2) + 1)).bind fun c6 =>
                    (m_r_hex c6).bind fun x3 =>
                    some (decide (x3 < 0)))).bind fun p4 =>
                    bif p4 then
                      some (Out.ret (([] : List UInt8), 0, 5))
                    else
                      (idx s1 (i2 + 2)).bind fun c7 =>
                      (m_r_hex c7).bind fun x4 =>
                      grd (InR (16 * x4)) <|
                      grd (InR ((i2 + 2) + 1)) <|
                      (idx s1 ((i2 + 2) + 1)).bind fun c8 =>
                      (m_r_hex c8).bind fun x5 =>
                      grd (InR ((16 * x4) + x5)) <|
                      grd ((l2.length + ([(toU8 ((16 * x4) + x5))] : List _).length) * 1 ≤ 140737488355328) <|
                      grd (InR ((i2 + 2) + 2)) <|
                      m_r_Take_l1 s1 n (((i2 + 2) + 2), (l2 ++ [(toU8 ((16 * x4) + x5))]))
                  else
                    some (Out.ret (([] : List UInt8), 0, 5))
    else
      some (Out.go ((i2, l2)))
def m_r_Take (s1 : (List UInt8)) : Option ((List UInt8) × Int × Int) :=
  (bif (decide ((s1.length : Int) < 2)) then (some true) else ((idx s1 0).bind fun c1 =>
  some (!decide ((c1.toNat : Int) = 34)))).bind fun p1 =>
  bif p1 then
    some (([] : List UInt8), 0, 5)
  else
    ((m_r_Take_l1 s1 FU (1, []) : Option (Out ((List UInt8) × Int × Int) (Int × (List UInt8))))).bind (fun oo => oo.on (fun r1 => some r1) (fun (i1, l1) =>
    bif (decide ((s1.length : Int) ≤ i1)) then
      some (([] : List UInt8), 0, 5)
    else
      bif (decide (200 < (l1.length : Int))) then
        some (([] : List UInt8), 0, 7)
      else
        grd (InR (i1 + 1)) <|
        some (l1, (i1 + 1), 0)))
theorem w_r_Take {s1 : (List UInt8)} {r1 : (List UInt8)} {r2 : Int} {r3 : Int} (hm : m_r_Take s1 = some (r1, r2, r3)) : Fn0 Try.prog 39 [.str s1] (.tup [.str r1, .i64 r2, .i64 r3]) := by
  unfold m_r_Take at hm
  refine fn_intro Try.func39 rfl Try.ntmps39 rfl fun H0 fr w0 => ?_
  refine g_seq ?_
  refine g_region ?_
  refine go_p rfl rfl rfl (o_assign rfl) ?_
  refine go_p rfl rfl rfl (o_assign rfl) ?_
  refine go_p rfl rfl rfl (o_assign rfl) ?_
  refine go_nil ?_
  refine g_seq ?_
  refine g_seq ?_
  refine g_region ?_
  refine go_p rfl rfl rfl (o_move rfl) ?_
  refine go_p rfl rfl rfl (o_len_str Try.runUnderlying9 rfl) ?_
  refine go_p rfl rfl rfl (o_cmp rfl rfl rfl) ?_
  refine go_p rfl rfl rfl (o_move rfl) ?_
  obtain ⟨p1, hp_1, hm⟩ := bind_some hm
  refine go_two [(0, _)] 4 16 p1 (t := 12) ⟨rfl, trivial⟩ rfl (fun hg_1 hk1 => ?_) (fun hg_1 hk1 => ?_) ?_
  · replace hp_1 := cond_t hg_1 hp_1
    refine go_skip rfl rfl rfl hg_1 rfl rfl ?_
    refine go_skip rfl rfl rfl hg_1 rfl rfl ?_
    refine go_skip rfl rfl rfl hg_1 rfl rfl ?_
    refine go_p rfl rfl rfl (o_pickT rfl hg_1 rfl) ?_
    exact go_meet hk1 (congrArg (fun b => some (D.bool b)) (some_eq hp_1)) ⟨rfl, trivial⟩
  · replace hp_1 := cond_f hg_1 hp_1
    refine go_wantp rfl rfl rfl hg_1 rfl rfl (o_move rfl) ?_
    obtain ⟨c1, hx1, hp_1⟩ := bind_some hp_1
    refine go_wantp rfl rfl rfl hg_1 rfl rfl (o_index_m Try.runUnderlying9 rfl rfl hx1) ?_
    refine go_wantp rfl rfl rfl hg_1 rfl rfl (o_cmp rfl rfl rfl) ?_
    refine go_p rfl rfl rfl (o_pickF rfl hg_1 rfl) ?_
    exact go_meet hk1 (congrArg (fun b => some (D.bool b)) (some_eq hp_1)) ⟨rfl, trivial⟩
  refine go_nil ?_
  refine g_cond rfl (fun hc1 => ?_) (fun hc1 => ?_)
  · replace hm := cond_t hc1 hm
    refine g_seq ?_
    refine g_region ?_
    refine go_p rfl rfl rfl (o_assign rfl) ?_
    refine go_p rfl rfl rfl (o_assign rfl) ?_
    refine go_p rfl rfl rfl (o_assign rfl) ?_
    refine go_nil ?_
    refine g_ret ?_
    exact retK (ret_many (ds := [_, _, _]) rfl (by decide) ⟨ret_tmp rfl, ⟨ret_tmp rfl, ⟨ret_tmp rfl, rfl⟩⟩⟩ (perm_drop _)) (congrArg (fun (p : ((List UInt8) × Int × Int)) => D.tup [.str p.1, .i64 p.2.1, .i64 p.2.2]) (some_eq hm))
  · replace hm := cond_f hc1 hm
    refine g_skip ?_
    refine g_seq ?_
    refine g_region ?_
    refine go_op rfl rfl rfl (o_buildSlice_row (xs := []) (f := D.u8) (l := []) Try.runUnderlying130 Try.sizeOf5 Try.zeroValue5 rfl rfl rfl (fun _ => ⟨rfl, rfl, rfl⟩) rfl (by simp [maxLen])) ?_
    rintro _ _ ⟨a_r1, rfl, rfl⟩
    refine go_p rfl rfl rfl (o_assign rfl) ?_
    refine go_p rfl rfl rfl (o_assign rfl) ?_
    refine go_nil ?_
    refine g_seq ?_
    obtain ⟨o_1, hj1, hm1⟩ := bind_some hm
    refine g_cut_m [(0, _)] [] (fun (st : (Int × (List UInt8))) (hid : (Option Addr × Nat)) => match st, hid with | (i1, l1), (a_r1, cap_r1) => [(5, .v (.slice a_r1 l1.length cap_r1)), (6, .i64 i1)]) (fun F (st : (Int × (List UInt8))) (hid : (Option Addr × Nat)) => match st, hid with | (i1, l1), (a_r1, cap_r1) => [row a_r1 cap_r1 5 1 D.u8 l1]) (fun st => Out.go (st) = o_1) ⟨rfl, trivial⟩ trivial ?_ ?_
    · skip
      refine g_block ?_
      refine g_loop_m [(0, _)] [] (fun (st : (Int × (List UInt8))) (hid : (Option Addr × Nat)) => match st, hid with | (i2, l2), (a_r1, cap_r1) => [(5, .v (.slice a_r1 l2.length cap_r1)), (6, .i64 i2)]) (fun F (st : (Int × (List UInt8))) (hid : (Option Addr × Nat)) => match st, hid with | (i2, l2), (a_r1, cap_r1) => [row a_r1 cap_r1 5 1 D.u8 l2]) (_, _) hj1 (fun _ => rfl) ⟨rfl, trivial⟩ trivial ⟨rfl, rfl, trivial⟩ rfl ?_
      rintro n ⟨i2, l2⟩ ⟨a_r1, cap_r1⟩ hj1
      rw [m_r_Take_l1] at hj1
      refine g_norm (L' := [(5, .v (.slice a_r1 l2.length cap_r1)), (6, .i64 i2), (0, _)]) (ms' := [row a_r1 cap_r1 5 1 D.u8 l2]) rfl rfl ?_
      refine g_seq ?_
      refine g_seq ?_
      refine g_region ?_
      refine go_p rfl rfl rfl (o_move rfl) ?_
      refine go_p rfl rfl rfl (o_move rfl) ?_
      refine go_p rfl rfl rfl (o_len_str Try.runUnderlying9 rfl) ?_
      refine go_p rfl rfl rfl (o_cmp rfl rfl rfl) ?_
      refine go_p rfl rfl rfl (o_move rfl) ?_
      obtain ⟨p2, hp_2, hj1⟩ := bind_some hj1
      refine go_two [(0, _), (5, _), (6, _)] 5 27 p2 (t := 22) ⟨rfl, rfl, rfl, trivial⟩ rfl (fun hg_2 hk2 => ?_) (fun hg_2 hk2 => ?_) ?_
      · replace hp_2 := cond_t hg_2 hp_2
        refine go_wantp rfl rfl rfl hg_2 rfl rfl (o_move rfl) ?_
        refine go_wantp rfl rfl rfl hg_2 rfl rfl (o_move rfl) ?_
        obtain ⟨c2, hx2, hp_2⟩ := bind_some hp_2
        refine go_wantp rfl rfl rfl hg_2 rfl rfl (o_index_m Try.runUnderlying9 rfl rfl hx2) ?_
        refine go_wantp rfl rfl rfl hg_2 rfl rfl (o_cmp rfl rfl rfl) ?_
        refine go_p rfl rfl rfl (o_pickT rfl hg_2 rfl) ?_
        exact go_meet hk2 (congrArg (fun b => some (D.bool b)) (some_eq hp_2)) ⟨rfl, rfl, rfl, trivial⟩
      · replace hp_2 := cond_f hg_2 hp_2
        refine go_skip rfl rfl rfl hg_2 rfl rfl ?_
        refine go_skip rfl rfl rfl hg_2 rfl rfl ?_
        refine go_skip rfl rfl rfl hg_2 rfl rfl ?_
        refine go_skip rfl rfl rfl hg_2 rfl rfl ?_
        refine go_p rfl rfl rfl (o_pickF rfl hg_2 rfl) ?_
        exact go_meet hk2 (congrArg (fun b => some (D.bool b)) (some_eq hp_2)) ⟨rfl, rfl, rfl, trivial⟩
      refine go_nil ?_
      refine g_cond rfl (fun hc2 => ?_) (fun hc2 => ?_)
      · replace hj1 := cond_t hc2 hj1
        refine g_skip ?_
        refine g_block ?_
        refine g_seq ?_
        refine g_region ?_
        refine go_p rfl rfl rfl (o_move rfl) ?_
        refine go_p rfl rfl rfl (o_move rfl) ?_
        obtain ⟨c3, hx3, hj1⟩ := bind_some hj1
        refine go_p rfl rfl rfl (o_index_m Try.runUnderlying9 rfl rfl hx3) ?_
        refine go_p rfl rfl rfl (o_assign rfl) ?_
        refine go_nil ?_
        refine g_seq ?_
        refine g_seq ?_
        refine g_region ?_
        refine go_p rfl rfl rfl (o_move rfl) ?_
        refine go_p rfl rfl rfl (o_cmp rfl rfl rfl) ?_
        refine go_p rfl rfl rfl (o_move rfl) ?_
        apply go_or [(0, _), (5, _), (6, _), (7, _)] 3 36 (t := 33) ⟨rfl, rfl, rfl, rfl, trivial⟩ rfl
        · intro hg_3 hk3
          refine go_wantp rfl rfl rfl hg_3 rfl rfl (o_move rfl) ?_
          refine go_wantp rfl rfl rfl hg_3 rfl rfl (o_cmp rfl rfl rfl) ?_
          refine go_p rfl rfl rfl (o_pickF rfl hg_3 rfl) ?_
          exact go_meet hk3 (rfl) ⟨rfl, rfl, rfl, rfl, trivial⟩
        · intro hg_3 hk3
          refine go_skip rfl rfl rfl hg_3 rfl rfl ?_
          refine go_skip rfl rfl rfl hg_3 rfl rfl ?_
          refine go_p rfl rfl rfl (o_pickT rfl hg_3 rfl) ?_
          exact go_meet hk3 (rfl) ⟨rfl, rfl, rfl, rfl, trivial⟩
        refine go_nil ?_
        refine g_cond rfl (fun hc3 => ?_) (fun hc3 => ?_)
        · replace hj1 := cond_t hc3 hj1
          refine g_seq ?_
          refine g_region ?_
          refine go_p rfl rfl rfl (o_assign rfl) ?_
          refine go_p rfl rfl rfl (o_assign rfl) ?_
          refine go_p rfl rfl rfl (o_assign rfl) ?_
          refine go_nil ?_
          refine g_ret ?_
          obtain rfl := some_eq hj1
          replace hm1 := on_ret hm1
          exact retK (ret_many (ds := [_, _, _]) rfl (by decide) ⟨ret_tmp rfl, ⟨ret_tmp rfl, ⟨ret_tmp rfl, rfl⟩⟩⟩ (perm_drop _)) (congrArg (fun (p : ((List UInt8) × Int × Int)) => D.tup [.str p.1, .i64 p.2.1, .i64 p.2.2]) (some_eq hm1))
        · replace hj1 := cond_f hc3 hj1
          refine g_skip ?_
          refine g_seq ?_
          refine g_seq ?_
          refine g_region ?_
          refine go_p rfl rfl rfl (o_move rfl) ?_
          refine go_p rfl rfl rfl (o_cmp rfl rfl rfl) ?_
          refine go_nil ?_
          refine g_cond rfl (fun hc4 => ?_) (fun hc4 => ?_)
          · replace hj1 := cond_t hc4 hj1
            refine g_seq ?_
            refine g_region ?_
            refine go_p rfl rfl rfl (o_move rfl) ?_
            refine go_p rfl rfl rfl (o_move rfl) ?_
            refine go_p rfl rfl rfl (o_buildSlice (xs := [_]) (f := D.u8) (l := [_]) Try.runUnderlying130 Try.sizeOf5 Try.zeroValue5 rfl rfl rfl (fun _ => ⟨rfl, rfl, rfl⟩) rfl) ?_
            obtain ⟨hg4, hj1⟩ := grd_some hj1
            refine go_op rfl rfl rfl (o_append (a := _) 0 Try.underlying130 Try.type5 rfl rfl rfl rfl rfl rfl rfl (fun _ => rfl) (fun _ => rfl) hg4 (app_len hg4 rfl)) ?_
            rintro _ _ ⟨a_r1, cap_r1, rfl, rfl⟩
            refine go_p rfl rfl rfl (o_assign rfl) ?_
            refine go_nil ?_
            refine g_seq ?_
            refine g_region ?_
            refine go_p rfl rfl rfl (o_move rfl) ?_
            obtain ⟨hg5, hj1⟩ := grd_some hj1
            refine go_p rfl rfl rfl (o_add rfl rfl (i64_id hg5)) ?_
            refine go_p rfl rfl rfl (o_assign rfl) ?_
            refine go_nil ?_
            refine g_exit ?_
            exact ⟨_, (_, _), hj1, ⟨rfl, rfl, trivial⟩, ⟨rfl, trivial⟩, [], rfl⟩
          · replace hj1 := cond_f hc4 hj1
            refine g_skip ?_
            refine g_seq ?_
            refine g_seq ?_
            refine g_region ?_
            refine go_p rfl rfl rfl (o_move rfl) ?_
            obtain ⟨hg6, hj1⟩ := grd_some hj1
            refine go_p rfl rfl rfl (o_add rfl rfl (i64_id hg6)) ?_
            refine go_p rfl rfl rfl (o_move rfl) ?_
            refine go_p rfl rfl rfl (o_len_str Try.runUnderlying9 rfl) ?_
            refine go_p rfl rfl rfl (o_cmp rfl rfl rfl) ?_
            refine go_nil ?_
            refine g_cond rfl (fun hc5 => ?_) (fun hc5 => ?_)
            · replace hj1 := cond_t hc5 hj1
              refine g_seq ?_
              refine g_region ?_
              refine go_p rfl rfl rfl (o_assign rfl) ?_
              refine go_p rfl rfl rfl (o_assign rfl) ?_
              refine go_p rfl rfl rfl (o_assign rfl) ?_
              refine go_nil ?_
              refine g_ret ?_
              obtain rfl := some_eq hj1
              replace hm1 := on_ret hm1
              exact retK (ret_many (ds := [_, _, _]) rfl (by decide) ⟨ret_tmp rfl, ⟨ret_tmp rfl, ⟨ret_tmp rfl, rfl⟩⟩⟩ (perm_drop _)) (congrArg (fun (p : ((List UInt8) × Int × Int)) => D.tup [.str p.1, .i64 p.2.1, .i64 p.2.2]) (some_eq hm1))
            · replace hj1 := cond_f hc5 hj1
              refine g_skip ?_
              refine g_seq ?_
              refine g_region ?_
              refine go_p rfl rfl rfl (o_move rfl) ?_
              refine go_p rfl rfl rfl (o_move rfl) ?_
              obtain ⟨hg7, hj1⟩ := grd_some hj1
              refine go_p rfl rfl rfl (o_add rfl rfl (i64_id hg7)) ?_
              obtain ⟨c4, hx8, hj1⟩ := bind_some hj1
              refine go_p rfl rfl rfl (o_index_m Try.runUnderlying9 rfl rfl hx8) ?_
              refine go_p rfl rfl rfl (o_assign rfl) ?_
              refine go_nil ?_
              refine g_seq ?_
              refine g_region ?_
              refine go_p rfl rfl rfl (o_move rfl) ?_
              obtain ⟨hg9, hj1⟩ := grd_some hj1
              refine go_p rfl rfl rfl (o_add rfl rfl (i64_id hg9)) ?_
              refine go_p rfl rfl rfl (o_assign rfl) ?_
              refine go_nil ?_
              refine g_seq ?_
              refine g_region ?_
              refine go_p rfl rfl rfl (o_move rfl) ?_
              refine go_nil ?_
              refine g_block ?_
              refine g_seq ?_
              refine g_seq ?_
              refine g_region ?_
              refine go_p rfl rfl rfl (o_cmp rfl rfl rfl) ?_
              refine go_p rfl rfl rfl (o_assign rfl) ?_
              refine go_nil ?_
              obtain ⟨o_2, hj2, hm2⟩ := bind_some hj1
              refine g_cut_m [(0, _), (5, _), (6, _), (8, _), (56, _)] [(0, _)] (fun (st : Bool) (hid : Unit) => match st, hid with | x1, _ => [(57, .bool x1)]) (fun F (st : Bool) (hid : Unit) => match st, hid with | x1, _ => [(nthF F 0)]) (fun st => st = o_2) ⟨rfl, rfl, rfl, rfl, rfl, trivial⟩ ⟨rfl, trivial⟩ ?_ ?_
              · skip
                refine g_cond rfl (fun hc6 => ?_) (fun hc6 => ?_)
                · replace hj2 := cond_t hc6 hj2
                  refine g_skip ?_
                  exact ⟨_, (), some_eq hj2, ⟨rfl, trivial⟩, ⟨rfl, rfl, rfl, rfl, rfl, trivial⟩, [], rfl⟩
                · replace hj2 := cond_f hc6 hj2
                  refine g_region ?_
                  refine go_p rfl rfl rfl (o_cmp rfl rfl rfl) ?_
                  refine go_p rfl rfl rfl (o_assign rfl) ?_
                  refine go_nil ?_
                  exact ⟨_, (), some_eq hj2, ⟨rfl, trivial⟩, ⟨rfl, rfl, rfl, rfl, rfl, trivial⟩, [], rfl⟩
              · rintro x1 _ hst
                subst hst
                refine k_norm (L' := [(57, .bool x1), (0, _), (5, _), (6, _), (8, _), (56, _)]) (ms' := [_]) rfl rfl ?_
                refine g_cond rfl (fun hc7 => ?_) (fun hc7 => ?_)
                · replace hm2 := cond_t hc7 hm2
                  refine g_region ?_
                  refine go_p rfl rfl rfl (o_move rfl) ?_
                  refine go_p rfl rfl rfl (o_move rfl) ?_
                  refine go_p rfl rfl rfl (o_buildSlice (xs := [_]) (f := D.u8) (l := [_]) Try.runUnderlying130 Try.sizeOf5 Try.zeroValue5 rfl rfl rfl (fun _ => ⟨rfl, rfl, rfl⟩) rfl) ?_
                  obtain ⟨hg10, hm2⟩ := grd_some hm2
                  refine go_op rfl rfl rfl (o_append (a := _) 0 Try.underlying130 Try.type5 rfl rfl rfl rfl rfl rfl rfl (fun _ => rfl) (fun _ => rfl) hg10 (app_len hg10 rfl)) ?_
                  rintro _ _ ⟨a_r1, cap_r1, rfl, rfl⟩
                  refine go_p rfl rfl rfl (o_assign rfl) ?_
                  refine go_nil ?_
                  exact ⟨_, (_, _), hm2, ⟨rfl, rfl, trivial⟩, ⟨rfl, trivial⟩, [], rfl⟩
                · replace hm2 := cond_f hc7 hm2
                  refine g_seq ?_
                  refine g_region ?_
                  refine go_p rfl rfl rfl (o_cmp rfl rfl rfl) ?_
                  refine go_p rfl rfl rfl (o_assign rfl) ?_
                  refine go_nil ?_
                  refine g_cond rfl (fun hc8 => ?_) (fun hc8 => ?_)
                  · replace hm2 := cond_t hc8 hm2
                    refine g_region ?_
                    refine go_p rfl rfl rfl (o_move rfl) ?_
                    refine go_p rfl rfl rfl (o_buildSlice (xs := [_]) (f := D.u8) (l := [(10 : UInt8)]) Try.runUnderlying130 Try.sizeOf5 Try.zeroValue5 rfl rfl rfl (fun _ => ⟨rfl, rfl, rfl⟩) rfl) ?_
                    obtain ⟨hg11, hm2⟩ := grd_some hm2
                    refine go_op rfl rfl rfl (o_append (a := _) 0 Try.underlying130 Try.type5 rfl rfl rfl rfl rfl rfl rfl (fun _ => rfl) (fun _ => rfl) hg11 (app_len hg11 rfl)) ?_
                    rintro _ _ ⟨a_r1, cap_r1, rfl, rfl⟩
                    refine go_p rfl rfl rfl (o_assign rfl) ?_
                    refine go_nil ?_
                    exact ⟨_, (_, _), hm2, ⟨rfl, rfl, trivial⟩, ⟨rfl, trivial⟩, [], rfl⟩
                  · replace hm2 := cond_f hc8 hm2
                    refine g_seq ?_
                    refine g_region ?_
                    refine go_p rfl rfl rfl (o_cmp rfl rfl rfl) ?_
                    refine go_p rfl rfl rfl (o_assign rfl) ?_
                    refine go_nil ?_
                    refine g_cond rfl (fun hc9 => ?_) (fun hc9 => ?_)
                    · replace hm2 := cond_t hc9 hm2
                      refine g_region ?_
                      refine go_p rfl rfl rfl (o_move rfl) ?_
                      refine go_p rfl rfl rfl (o_buildSlice (xs := [_]) (f := D.u8) (l := [(9 : UInt8)]) Try.runUnderlying130 Try.sizeOf5 Try.zeroValue5 rfl rfl rfl (fun _ => ⟨rfl, rfl, rfl⟩) rfl) ?_
                      obtain ⟨hg12, hm2⟩ := grd_some hm2
                      refine go_op rfl rfl rfl (o_append (a := _) 0 Try.underlying130 Try.type5 rfl rfl rfl rfl rfl rfl rfl (fun _ => rfl) (fun _ => rfl) hg12 (app_len hg12 rfl)) ?_
                      rintro _ _ ⟨a_r1, cap_r1, rfl, rfl⟩
                      refine go_p rfl rfl rfl (o_assign rfl) ?_
                      refine go_nil ?_
                      exact ⟨_, (_, _), hm2, ⟨rfl, rfl, trivial⟩, ⟨rfl, trivial⟩, [], rfl⟩
                    · replace hm2 := cond_f hc9 hm2
                      refine g_seq ?_
                      refine g_region ?_
                      refine go_p rfl rfl rfl (o_cmp rfl rfl rfl) ?_
                      refine go_p rfl rfl rfl (o_assign rfl) ?_
                      refine go_nil ?_
                      refine g_cond rfl (fun hc10 => ?_) (fun hc10 => ?_)
                      · replace hm2 := cond_t hc10 hm2
                        refine g_seq ?_
                        refine g_seq ?_
                        refine g_region ?_
                        refine go_p rfl rfl rfl (o_move rfl) ?_
                        obtain ⟨hg13, hm2⟩ := grd_some hm2
                        refine go_p rfl rfl rfl (o_add rfl rfl (i64_id hg13)) ?_
                        refine go_p rfl rfl rfl (o_move rfl) ?_
                        refine go_p rfl rfl rfl (o_len_str Try.runUnderlying9 rfl) ?_
                        refine go_p rfl rfl rfl (o_cmp rfl rfl rfl) ?_
                        refine go_p rfl rfl rfl (o_move rfl) ?_
                        obtain ⟨p3, hp_4, hm2⟩ := bind_some hm2
                        refine go_two [(0, _), (5, _), (6, _)] 6 87 p3 (t := 81) ⟨rfl, rfl, rfl, trivial⟩ rfl (fun hg_4 hk4 => ?_) (fun hg_4 hk4 => ?_) ?_
                        · replace hp_4 := cond_t hg_4 hp_4
                          refine go_skip rfl rfl rfl hg_4 rfl rfl ?_
                          refine go_skip rfl rfl rfl hg_4 rfl rfl ?_
                          refine go_skip rfl rfl rfl hg_4 rfl rfl ?_
                          refine go_skip rfl rfl rfl hg_4 rfl rfl ?_
                          refine go_skip rfl rfl rfl hg_4 rfl rfl ?_
                          refine go_p rfl rfl rfl (o_pickT rfl hg_4 rfl) ?_
                          exact go_meet hk4 (congrArg (fun b => some (D.bool b)) (some_eq hp_4)) ⟨rfl, rfl, rfl, trivial⟩
                        · replace hp_4 := cond_f hg_4 hp_4
                          refine go_wantp rfl rfl rfl hg_4 rfl rfl (o_move rfl) ?_
                          refine go_wantp rfl rfl rfl hg_4 rfl rfl (o_move rfl) ?_
                          obtain ⟨c5, hx14, hp_4⟩ := bind_some hp_4
                          refine go_wantp rfl rfl rfl hg_4 rfl rfl (o_index_m Try.runUnderlying9 rfl rfl hx14) ?_
                          obtain ⟨x2, hx15, hp_4⟩ := bind_some hp_4
                          refine go_wantp rfl rfl rfl hg_4 rfl rfl (o_call0 Try.call77 rfl (w_r_hex hx15)) ?_
                          refine go_wantp rfl rfl rfl hg_4 rfl rfl (o_cmp rfl rfl rfl) ?_
                          refine go_p rfl rfl rfl (o_pickF rfl hg_4 rfl) ?_
                          exact go_meet hk4 (congrArg (fun b => some (D.bool b)) (some_eq hp_4)) ⟨rfl, rfl, rfl, trivial⟩
                        refine go_p rfl rfl rfl (o_move rfl) ?_
                        obtain ⟨p4, hp_5, hm2⟩ := bind_some hm2
                        refine go_two [(0, _), (5, _), (6, _)] 7 95 p4 (t := 88) ⟨rfl, rfl, rfl, trivial⟩ rfl (fun hg_5 hk5 => ?_) (fun hg_5 hk5 => ?_) ?_
                        · replace hp_5 := cond_t hg_5 hp_5
                          refine go_skip rfl rfl rfl hg_5 rfl rfl ?_
                          refine go_skip rfl rfl rfl hg_5 rfl rfl ?_
                          refine go_skip rfl rfl rfl hg_5 rfl rfl ?_
                          refine go_skip rfl rfl rfl hg_5 rfl rfl ?_
                          refine go_skip rfl rfl rfl hg_5 rfl rfl ?_
                          refine go_skip rfl rfl rfl hg_5 rfl rfl ?_
                          refine go_p rfl rfl rfl (o_pickT rfl hg_5 rfl) ?_
                          exact go_meet hk5 (congrArg (fun b => some (D.bool b)) (some_eq hp_5)) ⟨rfl, rfl, rfl, trivial⟩
                        · replace hp_5 := cond_f hg_5 hp_5
                          refine go_wantp rfl rfl rfl hg_5 rfl rfl (o_move rfl) ?_
                          refine go_wantp rfl rfl rfl hg_5 rfl rfl (o_move rfl) ?_
                          obtain ⟨hg16, hp_5⟩ := grd_some hp_5
                          refine go_wantp rfl rfl rfl hg_5 rfl rfl (o_add rfl rfl (i64_id hg16)) ?_
                          obtain ⟨c6, hx17, hp_5⟩ := bind_some hp_5
                          refine go_wantp rfl rfl rfl hg_5 rfl rfl (o_index_m Try.runUnderlying9 rfl rfl hx17) ?_
                          obtain ⟨x3, hx18, hp_5⟩ := bind_some hp_5
                          refine go_wantp rfl rfl rfl hg_5 rfl rfl (o_call0 Try.call77 rfl (w_r_hex hx18)) ?_
                          refine go_wantp rfl rfl rfl hg_5 rfl rfl (o_cmp rfl rfl rfl) ?_
                          refine go_p rfl rfl rfl (o_pickF rfl hg_5 rfl) ?_
                          exact go_meet hk5 (congrArg (fun b => some (D.bool b)) (some_eq hp_5)) ⟨rfl, rfl, rfl, trivial⟩
                        refine go_nil ?_
                        refine g_cond rfl (fun hc11 => ?_) (fun hc11 => ?_)
                        · replace hm2 := cond_t hc11 hm2
                          refine g_seq ?_
                          refine g_region ?_
                          refine go_p rfl rfl rfl (o_assign rfl) ?_
                          refine go_p rfl rfl rfl (o_assign rfl) ?_
                          refine go_p rfl rfl rfl (o_assign rfl) ?_
                          refine go_nil ?_
                          refine g_ret ?_
                          obtain rfl := some_eq hm2
                          replace hm1 := on_ret hm1
                          exact retK (ret_many (ds := [_, _, _]) rfl (by decide) ⟨ret_tmp rfl, ⟨ret_tmp rfl, ⟨ret_tmp rfl, rfl⟩⟩⟩ (perm_drop _)) (congrArg (fun (p : ((List UInt8) × Int × Int)) => D.tup [.str p.1, .i64 p.2.1, .i64 p.2.2]) (some_eq hm1))
                        · replace hm2 := cond_f hc11 hm2
                          refine g_skip ?_
                          refine g_seq ?_
                          obtain ⟨c7, hx19, hm2⟩ := bind_some hm2
                          obtain ⟨x4, hx20, hm2⟩ := bind_some hm2
                          obtain ⟨hg21, hm2⟩ := grd_some hm2
                          obtain ⟨hg22, hm2⟩ := grd_some hm2
                          obtain ⟨c8, hx23, hm2⟩ := bind_some hm2
                          obtain ⟨x5, hx24, hm2⟩ := bind_some hm2
                          obtain ⟨hg25, hm2⟩ := grd_some hm2
                          refine g_draw 14 Try_mixed (by decide +kernel) ?_
                          refine gd_p rfl rfl rfl (o_move rfl) ?_
                          refine gd_p rfl rfl rfl (o_move rfl) ?_
                          refine gd_p rfl rfl rfl (o_move rfl) ?_
                          refine gd_p rfl rfl rfl (o_index_m Try.runUnderlying9 rfl rfl hx19) ?_
                          refine gd_p rfl rfl rfl (o_call0 Try.call77 rfl (w_r_hex hx20)) ?_
                          refine gd_p rfl rfl rfl (o_mul rfl rfl (i64_id hg21)) ?_
                          refine gd_p rfl rfl rfl (o_move rfl) ?_
                          refine gd_p rfl rfl rfl (o_move rfl) ?_
                          refine gd_p rfl rfl rfl (o_add rfl rfl (i64_id hg22)) ?_
                          refine gd_p rfl rfl rfl (o_index_m Try.runUnderlying9 rfl rfl hx23) ?_
                          refine gd_p rfl rfl rfl (o_call0 Try.call77 rfl (w_r_hex hx24)) ?_
                          refine gd_p rfl rfl rfl (o_add rfl rfl (i64_id hg25)) ?_
                          refine gd_p rfl rfl rfl (o_conv Try.runUnderlying3 Try.runUnderlying5 rfl (toU8_w _)) ?_
                          refine gd_p rfl rfl rfl (o_buildSlice (xs := [_]) (f := D.u8) (l := [_]) Try.runUnderlying130 Try.sizeOf5 Try.zeroValue5 rfl rfl rfl (fun _ => ⟨rfl, rfl, rfl⟩) rfl) ?_
                          refine gd_nil ?_
                          obtain ⟨hg26, hm2⟩ := grd_some hm2
                          refine go_op rfl rfl rfl (o_append (a := _) 0 Try.underlying130 Try.type5 rfl rfl rfl rfl rfl rfl rfl (fun _ => rfl) (fun _ => rfl) hg26 (app_len hg26 rfl)) ?_
                          rintro _ _ ⟨a_r1, cap_r1, rfl, rfl⟩
                          refine go_p rfl rfl rfl (o_assign rfl) ?_
                          refine go_nil ?_
                          refine g_region ?_
                          refine go_p rfl rfl rfl (o_move rfl) ?_
                          obtain ⟨hg27, hm2⟩ := grd_some hm2
                          refine go_p rfl rfl rfl (o_add rfl rfl (i64_id hg27)) ?_
                          refine go_p rfl rfl rfl (o_assign rfl) ?_
                          refine go_nil ?_
                          exact ⟨_, (_, _), hm2, ⟨rfl, rfl, trivial⟩, ⟨rfl, trivial⟩, [], rfl⟩
                      · replace hm2 := cond_f hc10 hm2
                        refine g_seq ?_
                        refine g_region ?_
                        refine go_p rfl rfl rfl (o_assign rfl) ?_
                        refine go_p rfl rfl rfl (o_assign rfl) ?_
                        refine go_p rfl rfl rfl (o_assign rfl) ?_
                        refine go_nil ?_
                        refine g_ret ?_
                        obtain rfl := some_eq hm2
                        replace hm1 := on_ret hm1
                        exact retK (ret_many (ds := [_, _, _]) rfl (by decide) ⟨ret_tmp rfl, ⟨ret_tmp rfl, ⟨ret_tmp rfl, rfl⟩⟩⟩ (perm_drop _)) (congrArg (fun (p : ((List UInt8) × Int × Int)) => D.tup [.str p.1, .i64 p.2.1, .i64 p.2.2]) (some_eq hm1))
      · replace hj1 := cond_f hc2 hj1
        refine g_exit ?_
        exact ⟨_, (_, _), some_eq hj1, ⟨rfl, rfl, trivial⟩, ⟨rfl, trivial⟩, [], rfl⟩
    · rintro ⟨i1, l1⟩ ⟨a_r1, cap_r1⟩ hst
      subst hst
      replace hm1 := on_go hm1
      refine k_norm (L' := [(5, .v (.slice a_r1 l1.length cap_r1)), (6, .i64 i1), (0, _)]) (ms' := [row a_r1 cap_r1 5 1 D.u8 l1]) rfl rfl ?_
      refine g_seq ?_
      refine g_seq ?_
      refine g_region ?_
      refine go_p rfl rfl rfl (o_move rfl) ?_
      refine go_p rfl rfl rfl (o_move rfl) ?_
      refine go_p rfl rfl rfl (o_len_str Try.runUnderlying9 rfl) ?_
      refine go_p rfl rfl rfl (o_cmp rfl rfl rfl) ?_
      refine go_nil ?_
      refine g_cond rfl (fun hc12 => ?_) (fun hc12 => ?_)
      · replace hm1 := cond_t hc12 hm1
        refine g_seq ?_
        refine g_region ?_
        refine go_p rfl rfl rfl (o_assign rfl) ?_
        refine go_p rfl rfl rfl (o_assign rfl) ?_
        refine go_p rfl rfl rfl (o_assign rfl) ?_
        refine go_nil ?_
        refine g_ret ?_
        exact retK (ret_many (ds := [_, _, _]) rfl (by decide) ⟨ret_tmp rfl, ⟨ret_tmp rfl, ⟨ret_tmp rfl, rfl⟩⟩⟩ (perm_drop _)) (congrArg (fun (p : ((List UInt8) × Int × Int)) => D.tup [.str p.1, .i64 p.2.1, .i64 p.2.2]) (some_eq hm1))
      · replace hm1 := cond_f hc12 hm1
        refine g_skip ?_
        refine g_seq ?_
        refine g_seq ?_
        refine g_region ?_
        refine go_p rfl rfl rfl (o_move rfl) ?_
        refine go_p rfl rfl rfl (.view (peekE (i := 117) 0 rfl rfl rfl) (o_len Try.runUnderlying130 rfl)) ?_
        refine go_p rfl rfl rfl (o_cmp rfl rfl rfl) ?_
        refine go_nil ?_
        refine g_cond rfl (fun hc13 => ?_) (fun hc13 => ?_)
        · replace hm1 := cond_t hc13 hm1
          refine g_seq ?_
          refine g_region ?_
          refine go_p rfl rfl rfl (o_assign rfl) ?_
          refine go_p rfl rfl rfl (o_assign rfl) ?_
          refine go_p rfl rfl rfl (o_assign rfl) ?_
          refine go_nil ?_
          refine g_ret ?_
          exact retK (ret_many (ds := [_, _, _]) rfl (by decide) ⟨ret_tmp rfl, ⟨ret_tmp rfl, ⟨ret_tmp rfl, rfl⟩⟩⟩ (perm_drop _)) (congrArg (fun (p : ((List UInt8) × Int × Int)) => D.tup [.str p.1, .i64 p.2.1, .i64 p.2.2]) (some_eq hm1))
        · replace hm1 := cond_f hc13 hm1
          refine g_skip ?_
          refine g_seq ?_
          refine g_region ?_
          refine go_p rfl rfl rfl (o_move rfl) ?_
          refine go_p rfl rfl rfl (.view (peekE (i := 120) 0 rfl rfl rfl) (o_bytes_str Try.underlying130 Try.underlying5 Try.underlying9 rfl)) ?_
          refine go_p rfl rfl rfl (o_move rfl) ?_
          obtain ⟨hg28, hm1⟩ := grd_some hm1
          refine go_p rfl rfl rfl (o_add rfl rfl (i64_id hg28)) ?_
          refine go_p rfl rfl rfl (o_assign rfl) ?_
          refine go_p rfl rfl rfl (o_assign rfl) ?_
          refine go_p rfl rfl rfl (o_assign rfl) ?_
          refine go_nil ?_
          refine g_ret ?_
          exact retK (ret_many (ds := [_, _, _]) rfl (by decide) ⟨ret_tmp rfl, ⟨ret_tmp rfl, ⟨ret_tmp rfl, rfl⟩⟩⟩ (perm_drop _)) (congrArg (fun (p : ((List UInt8) × Int × Int)) => D.tup [.str p.1, .i64 p.2.1, .i64 p.2.2]) (some_eq hm1))

def m_works02  : Option Bool :=
  (m_q_Parse ([34, 97, 92, 34, 92, 110, 34] : List UInt8)).bind fun (x1, x2) =>
  (m_q_Print ([97, 34, 10] : List UInt8)).bind fun x3 =>
  some (((decide ((x3 : List UInt8) = ([34, 97, 92, 34, 92, 110, 34] : List UInt8))) && (decide ((x1 : List UInt8) = ([97, 34, 10] : List UInt8)))) && (decide (x2 = 0)))
theorem w_works02  {r : Bool} (hm : m_works02 = some r) : Fn0 Try.prog 41 [] (.bool r) := by
  unfold m_works02 at hm
  refine fn_intro Try.func41 rfl Try.ntmps41 rfl fun H0 fr w0 => ?_
  refine g_seq ?_
  refine g_region ?_
  refine go_p rfl rfl rfl (o_assign rfl) ?_
  refine go_nil ?_
  refine g_seq ?_
  refine g_region ?_
  obtain ⟨⟨x1, x2⟩, hx1, hm⟩ := bind_some hm
  refine go_p rfl rfl rfl (o_call0 Try.call40 rfl (w_q_Parse hx1)) ?_
  refine go_p rfl rfl rfl (o_move rfl) ?_
  refine go_p rfl rfl rfl (o_extract rfl rfl) ?_
  refine go_p rfl rfl rfl (o_extract rfl rfl) ?_
  refine go_p rfl rfl rfl (o_assign rfl) ?_
  refine go_p rfl rfl rfl (o_assign rfl) ?_
  refine go_nil ?_
  refine g_seq ?_
  refine g_region ?_
  obtain ⟨x3, hx2, hm⟩ := bind_some hm
  refine go_p rfl rfl rfl (o_call0 Try.call42 rfl (w_q_Print hx2)) ?_
  refine go_p rfl rfl rfl (o_cmps rfl rfl rfl) ?_
  refine go_p rfl rfl rfl (o_move rfl) ?_
  apply go_and [(2, _)] 3 12 (t := 9) ⟨rfl, trivial⟩ rfl
  · intro hg_1 hk1
    refine go_wantp rfl rfl rfl hg_1 rfl rfl (o_move rfl) ?_
    refine go_wantp rfl rfl rfl hg_1 rfl rfl (o_cmps rfl rfl rfl) ?_
    refine go_p rfl rfl rfl (o_pickT rfl hg_1 rfl) ?_
    exact go_meet hk1 (rfl) ⟨rfl, trivial⟩
  · intro hg_1 hk1
    refine go_skip rfl rfl rfl hg_1 rfl rfl ?_
    refine go_skip rfl rfl rfl hg_1 rfl rfl ?_
    refine go_p rfl rfl rfl (o_pickF rfl hg_1 rfl) ?_
    exact go_meet hk1 (rfl) ⟨rfl, trivial⟩
  refine go_p rfl rfl rfl (o_move rfl) ?_
  apply go_and [] 3 16 (t := 13) trivial rfl
  · intro hg_2 hk2
    refine go_wantp rfl rfl rfl hg_2 rfl rfl (o_move rfl) ?_
    refine go_wantp rfl rfl rfl hg_2 rfl rfl (o_cmp rfl rfl rfl) ?_
    refine go_p rfl rfl rfl (o_pickT rfl hg_2 rfl) ?_
    exact go_meet hk2 (rfl) trivial
  · intro hg_2 hk2
    refine go_skip rfl rfl rfl hg_2 rfl rfl ?_
    refine go_skip rfl rfl rfl hg_2 rfl rfl ?_
    refine go_p rfl rfl rfl (o_pickF rfl hg_2 rfl) ?_
    exact go_meet hk2 (rfl) trivial
  refine go_p rfl rfl rfl (o_assign rfl) ?_
  refine go_nil ?_
  refine g_ret ?_
  exact retK (ret_one' rfl (ret_tmp rfl) (perm_drop _)) (congrArg (fun (p : Bool) => (.bool p : D)) (some_eq hm))

def m_QuoteTakes (s1 : (List UInt8)) : Option Bool :=
  (bif (decide (1500 < (s1.length : Int))) then
    (sli s1 0 1500).bind fun s3 =>
    some s3
  else
    some s1 : Option (List UInt8)).bind fun s2 =>
  (m_q_Take s2).bind fun (x1, x2, x3) =>
  (m_r_Take s2).bind fun (x4, x5, x6) =>
  (m_q_Parse s2).bind fun (x7, x8) =>
  bif (((!decide ((x1 : List UInt8) = x4)) || (!decide (x2 = x5))) || (!decide (x3 = x6))) then
    some false
  else
    bif ((decide (x6 = 0)) && (!decide (x5 = (s2.length : Int)))) then
      (bif ((decide ((x7 : List UInt8) = ([] : List UInt8))) && (decide (x8 = 5))) then ((m_works02).bind fun x9 =>
      some x9) else (some false)).bind fun p1 =>
      some p1
    else
      (bif ((decide ((x7 : List UInt8) = x4)) && (decide (x8 = x6))) then ((m_works02).bind fun x10 =>
      some x10) else (some false)).bind fun p2 =>
      some p2
theorem w_QuoteTakes {s1 : (List UInt8)} {r : Bool} (hm : m_QuoteTakes s1 = some r) : Fn0 Try.prog 7 [.str s1] (.bool r) := by
  unfold m_QuoteTakes at hm
  refine fn_intro Try.func7 rfl Try.ntmps7 rfl fun H0 fr w0 => ?_
  refine g_seq ?_
  refine g_region ?_
  refine go_p rfl rfl rfl (o_assign rfl) ?_
  refine go_nil ?_
  refine g_seq ?_
  refine g_seq ?_
  refine g_region ?_
  refine go_p rfl rfl rfl (o_move rfl) ?_
  refine go_p rfl rfl rfl (o_len_str Try.runUnderlying9 rfl) ?_
  refine go_p rfl rfl rfl (o_cmp rfl rfl rfl) ?_
  refine go_nil ?_
  obtain ⟨o_1, hj1, hm1⟩ := bind_some hm
  refine g_cut_m [] [] (fun (st : (List UInt8)) (hid : Unit) => match st, hid with | s2, _ => [(0, .str s2)]) (fun F (st : (List UInt8)) (hid : Unit) => match st, hid with | s2, _ => []) (fun st => st = o_1) trivial trivial ?_ ?_
  · skip
    refine g_cond rfl (fun hc1 => ?_) (fun hc1 => ?_)
    · replace hj1 := cond_t hc1 hj1
      refine g_region ?_
      refine go_p rfl rfl rfl (o_move rfl) ?_
      obtain ⟨s3, hx1, hj1⟩ := bind_some hj1
      refine go_p rfl rfl rfl (o_slice_str_m Try.runUnderlying9 rfl rfl ⟨_, rfl⟩ hx1) ?_
      refine go_p rfl rfl rfl (o_assign rfl) ?_
      refine go_nil ?_
      exact ⟨_, (), some_eq hj1, ⟨rfl, trivial⟩, trivial, [], rfl⟩
    · replace hj1 := cond_f hc1 hj1
      refine g_skip ?_
      exact ⟨_, (), some_eq hj1, ⟨rfl, trivial⟩, trivial, [], rfl⟩
  · rintro s2 _ hst
    subst hst
    refine k_norm (L' := [(0, .str s2)]) (ms' := []) rfl rfl ?_
    refine g_seq ?_
    refine g_region ?_
    refine go_p rfl rfl rfl (o_move rfl) ?_
    obtain ⟨⟨x1, x2, x3⟩, hx2, hm1⟩ := bind_some hm1
    refine go_p rfl rfl rfl (o_call0 Try.call38 rfl (w_q_Take hx2)) ?_
    refine go_p rfl rfl rfl (o_move rfl) ?_
    refine go_p rfl rfl rfl (o_extract rfl rfl) ?_
    refine go_p rfl rfl rfl (o_extract rfl rfl) ?_
    refine go_p rfl rfl rfl (o_extract rfl rfl) ?_
    refine go_p rfl rfl rfl (o_assign rfl) ?_
    refine go_p rfl rfl rfl (o_assign rfl) ?_
    refine go_p rfl rfl rfl (o_assign rfl) ?_
    refine go_nil ?_
    refine g_seq ?_
    refine g_region ?_
    refine go_p rfl rfl rfl (o_move rfl) ?_
    obtain ⟨⟨x4, x5, x6⟩, hx3, hm1⟩ := bind_some hm1
    refine go_p rfl rfl rfl (o_call0 Try.call39 rfl (w_r_Take hx3)) ?_
    refine go_p rfl rfl rfl (o_move rfl) ?_
    refine go_p rfl rfl rfl (o_extract rfl rfl) ?_
    refine go_p rfl rfl rfl (o_extract rfl rfl) ?_
    refine go_p rfl rfl rfl (o_extract rfl rfl) ?_
    refine go_p rfl rfl rfl (o_assign rfl) ?_
    refine go_p rfl rfl rfl (o_assign rfl) ?_
    refine go_p rfl rfl rfl (o_assign rfl) ?_
    refine go_nil ?_
    refine g_seq ?_
    refine g_region ?_
    refine go_p rfl rfl rfl (o_move rfl) ?_
    obtain ⟨⟨x7, x8⟩, hx4, hm1⟩ := bind_some hm1
    refine go_p rfl rfl rfl (o_call0 Try.call40 rfl (w_q_Parse hx4)) ?_
    refine go_p rfl rfl rfl (o_move rfl) ?_
    refine go_p rfl rfl rfl (o_extract rfl rfl) ?_
    refine go_p rfl rfl rfl (o_extract rfl rfl) ?_
    refine go_p rfl rfl rfl (o_assign rfl) ?_
    refine go_p rfl rfl rfl (o_assign rfl) ?_
    refine go_nil ?_
    refine g_seq ?_
    refine g_seq ?_
    refine g_region ?_
    refine go_p rfl rfl rfl (o_move rfl) ?_
    refine go_p rfl rfl rfl (o_move rfl) ?_
    refine go_p rfl rfl rfl (o_cmps rfl rfl rfl) ?_
    refine go_p rfl rfl rfl (o_move rfl) ?_
    apply go_or [(0, _), (5, _), (6, _), (7, _), (8, _), (9, _), (10, _)] 4 40 (t := 36) ⟨rfl, rfl, rfl, rfl, rfl, rfl, rfl, trivial⟩ rfl
    · intro hg_1 hk1
      refine go_wantp rfl rfl rfl hg_1 rfl rfl (o_move rfl) ?_
      refine go_wantp rfl rfl rfl hg_1 rfl rfl (o_move rfl) ?_
      refine go_wantp rfl rfl rfl hg_1 rfl rfl (o_cmp rfl rfl rfl) ?_
      refine go_p rfl rfl rfl (o_pickF rfl hg_1 rfl) ?_
      exact go_meet hk1 (rfl) ⟨rfl, rfl, rfl, rfl, rfl, rfl, rfl, trivial⟩
    · intro hg_1 hk1
      refine go_skip rfl rfl rfl hg_1 rfl rfl ?_
      refine go_skip rfl rfl rfl hg_1 rfl rfl ?_
      refine go_skip rfl rfl rfl hg_1 rfl rfl ?_
      refine go_p rfl rfl rfl (o_pickT rfl hg_1 rfl) ?_
      exact go_meet hk1 (rfl) ⟨rfl, rfl, rfl, rfl, rfl, rfl, rfl, trivial⟩
    refine go_p rfl rfl rfl (o_move rfl) ?_
    apply go_or [(0, _), (6, _), (7, _), (8, _), (9, _), (10, _)] 4 45 (t := 41) ⟨rfl, rfl, rfl, rfl, rfl, rfl, trivial⟩ rfl
    · intro hg_2 hk2
      refine go_wantp rfl rfl rfl hg_2 rfl rfl (o_move rfl) ?_
      refine go_wantp rfl rfl rfl hg_2 rfl rfl (o_move rfl) ?_
      refine go_wantp rfl rfl rfl hg_2 rfl rfl (o_cmp rfl rfl rfl) ?_
      refine go_p rfl rfl rfl (o_pickF rfl hg_2 rfl) ?_
      exact go_meet hk2 (rfl) ⟨rfl, rfl, rfl, rfl, rfl, rfl, trivial⟩
    · intro hg_2 hk2
      refine go_skip rfl rfl rfl hg_2 rfl rfl ?_
      refine go_skip rfl rfl rfl hg_2 rfl rfl ?_
      refine go_skip rfl rfl rfl hg_2 rfl rfl ?_
      refine go_p rfl rfl rfl (o_pickT rfl hg_2 rfl) ?_
      exact go_meet hk2 (rfl) ⟨rfl, rfl, rfl, rfl, rfl, rfl, trivial⟩
    refine go_nil ?_
    refine g_cond rfl (fun hc2 => ?_) (fun hc2 => ?_)
    · replace hm1 := cond_t hc2 hm1
      refine g_seq ?_
      refine g_region ?_
      refine go_p rfl rfl rfl (o_assign rfl) ?_
      refine go_nil ?_
      refine g_ret ?_
      exact retK (ret_one' rfl (ret_tmp rfl) (perm_drop _)) (congrArg (fun (p : Bool) => (.bool p : D)) (some_eq hm1))
    · replace hm1 := cond_f hc2 hm1
      refine g_skip ?_
      refine g_seq ?_
      refine g_seq ?_
      refine g_region ?_
      refine go_p rfl rfl rfl (o_move rfl) ?_
      refine go_p rfl rfl rfl (o_cmp rfl rfl rfl) ?_
      refine go_p rfl rfl rfl (o_move rfl) ?_
      apply go_and [(6, _), (8, _), (9, _), (10, _)] 5 53 (t := 48) ⟨rfl, rfl, rfl, rfl, trivial⟩ rfl
      · intro hg_3 hk3
        refine go_wantp rfl rfl rfl hg_3 rfl rfl (o_move rfl) ?_
        refine go_wantp rfl rfl rfl hg_3 rfl rfl (o_move rfl) ?_
        refine go_wantp rfl rfl rfl hg_3 rfl rfl (o_len_str Try.runUnderlying9 rfl) ?_
        refine go_wantp rfl rfl rfl hg_3 rfl rfl (o_cmp rfl rfl rfl) ?_
        refine go_p rfl rfl rfl (o_pickT rfl hg_3 rfl) ?_
        exact go_meet hk3 (rfl) ⟨rfl, rfl, rfl, rfl, trivial⟩
      · intro hg_3 hk3
        refine go_skip rfl rfl rfl hg_3 rfl rfl ?_
        refine go_skip rfl rfl rfl hg_3 rfl rfl ?_
        refine go_skip rfl rfl rfl hg_3 rfl rfl ?_
        refine go_skip rfl rfl rfl hg_3 rfl rfl ?_
        refine go_p rfl rfl rfl (o_pickF rfl hg_3 rfl) ?_
        exact go_meet hk3 (rfl) ⟨rfl, rfl, rfl, rfl, trivial⟩
      refine go_nil ?_
      refine g_cond rfl (fun hc3 => ?_) (fun hc3 => ?_)
      · replace hm1 := cond_t hc3 hm1
        refine g_seq ?_
        refine g_region ?_
        refine go_p rfl rfl rfl (o_move rfl) ?_
        refine go_p rfl rfl rfl (o_cmps rfl rfl rfl) ?_
        refine go_p rfl rfl rfl (o_move rfl) ?_
        apply go_and [] 3 59 (t := 56) trivial rfl
        · intro hg_4 hk4
          refine go_wantp rfl rfl rfl hg_4 rfl rfl (o_move rfl) ?_
          refine go_wantp rfl rfl rfl hg_4 rfl rfl (o_cmp rfl rfl rfl) ?_
          refine go_p rfl rfl rfl (o_pickT rfl hg_4 rfl) ?_
          exact go_meet hk4 (rfl) trivial
        · intro hg_4 hk4
          refine go_skip rfl rfl rfl hg_4 rfl rfl ?_
          refine go_skip rfl rfl rfl hg_4 rfl rfl ?_
          refine go_p rfl rfl rfl (o_pickF rfl hg_4 rfl) ?_
          exact go_meet hk4 (rfl) trivial
        refine go_p rfl rfl rfl (o_move rfl) ?_
        obtain ⟨p1, hp_5, hm1⟩ := bind_some hm1
        refine go_two [] 2 62 p1 (t := 60) trivial rfl (fun hg_5 hk5 => ?_) (fun hg_5 hk5 => ?_) ?_
        · replace hp_5 := cond_t hg_5 hp_5
          obtain ⟨x9, hx5, hp_5⟩ := bind_some hp_5
          refine go_wantp rfl rfl rfl hg_5 rfl rfl (o_call0 Try.call41 rfl (w_works02 hx5)) ?_
          refine go_p rfl rfl rfl (o_pickT rfl hg_5 rfl) ?_
          exact go_meet hk5 (congrArg (fun b => some (D.bool b)) (some_eq hp_5)) trivial
        · replace hp_5 := cond_f hg_5 hp_5
          refine go_skip rfl rfl rfl hg_5 rfl rfl ?_
          refine go_p rfl rfl rfl (o_pickF rfl hg_5 rfl) ?_
          exact go_meet hk5 (congrArg (fun b => some (D.bool b)) (some_eq hp_5)) trivial
        refine go_p rfl rfl rfl (o_assign rfl) ?_
        refine go_nil ?_
        refine g_ret ?_
        exact retK (ret_one' rfl (ret_tmp rfl) (perm_drop _)) (congrArg (fun (p : Bool) => (.bool p : D)) (some_eq hm1))
      · replace hm1 := cond_f hc3 hm1
        refine g_skip ?_
        refine g_seq ?_
        refine g_region ?_
        refine go_p rfl rfl rfl (o_move rfl) ?_
        refine go_p rfl rfl rfl (o_move rfl) ?_
        refine go_p rfl rfl rfl (o_cmps rfl rfl rfl) ?_
        refine go_p rfl rfl rfl (o_move rfl) ?_
        apply go_and [] 4 70 (t := 66) trivial rfl
        · intro hg_6 hk6
          refine go_wantp rfl rfl rfl hg_6 rfl rfl (o_move rfl) ?_
          refine go_wantp rfl rfl rfl hg_6 rfl rfl (o_move rfl) ?_
          refine go_wantp rfl rfl rfl hg_6 rfl rfl (o_cmp rfl rfl rfl) ?_
          refine go_p rfl rfl rfl (o_pickT rfl hg_6 rfl) ?_
          exact go_meet hk6 (rfl) trivial
        · intro hg_6 hk6
          refine go_skip rfl rfl rfl hg_6 rfl rfl ?_
          refine go_skip rfl rfl rfl hg_6 rfl rfl ?_
          refine go_skip rfl rfl rfl hg_6 rfl rfl ?_
          refine go_p rfl rfl rfl (o_pickF rfl hg_6 rfl) ?_
          exact go_meet hk6 (rfl) trivial
        refine go_p rfl rfl rfl (o_move rfl) ?_
        obtain ⟨p2, hp_7, hm1⟩ := bind_some hm1
        refine go_two [] 2 73 p2 (t := 71) trivial rfl (fun hg_7 hk7 => ?_) (fun hg_7 hk7 => ?_) ?_
        · replace hp_7 := cond_t hg_7 hp_7
          obtain ⟨x10, hx6, hp_7⟩ := bind_some hp_7
          refine go_wantp rfl rfl rfl hg_7 rfl rfl (o_call0 Try.call41 rfl (w_works02 hx6)) ?_
          refine go_p rfl rfl rfl (o_pickT rfl hg_7 rfl) ?_
          exact go_meet hk7 (congrArg (fun b => some (D.bool b)) (some_eq hp_7)) trivial
        · replace hp_7 := cond_f hg_7 hp_7
          refine go_skip rfl rfl rfl hg_7 rfl rfl ?_
          refine go_p rfl rfl rfl (o_pickF rfl hg_7 rfl) ?_
          exact go_meet hk7 (congrArg (fun b => some (D.bool b)) (some_eq hp_7)) trivial
        refine go_p rfl rfl rfl (o_assign rfl) ?_
        refine go_nil ?_
        refine g_ret ?_
        exact retK (ret_one' rfl (ret_tmp rfl) (perm_drop _)) (congrArg (fun (p : Bool) => (.bool p : D)) (some_eq hm1))

def m_QuoteBack (s1 : (List UInt8)) (more1 : (List UInt8)) : Option Bool :=
  (m_works02).bind fun x1 =>
  bif (!x1) then
    some false
  else
    (bif (decide (300 < (s1.length : Int))) then
      (sli s1 0 300).bind fun s3 =>
      some s3
    else
      some s1 : Option (List UInt8)).bind fun s2 =>
    (m_q_Print s2).bind fun x2 =>
    grd (x2.length + more1.length ≤ 9223372036854775807) <|
    (m_q_Take (x2 ++ more1)).bind fun (x3, x4, x5) =>
    bif (decide (200 < (s2.length : Int))) then
      some (((decide (x5 = 7)) && (decide ((x3 : List UInt8) = ([] : List UInt8)))) && (decide (x4 = 0)))
    else
      some (((decide (x5 = 0)) && (decide ((x3 : List UInt8) = s2))) && (decide (x4 = (x2.length : Int))))
theorem w_QuoteBack {s1 : (List UInt8)} {more1 : (List UInt8)} {r : Bool} (hm : m_QuoteBack s1 more1 = some r) : Fn0 Try.prog 8 [.str s1, .str more1] (.bool r) := by
  unfold m_QuoteBack at hm
  refine fn_intro Try.func8 rfl Try.ntmps8 rfl fun H0 fr w0 => ?_
  refine g_seq ?_
  refine g_region ?_
  refine go_p rfl rfl rfl (o_assign rfl) ?_
  refine go_nil ?_
  refine g_seq ?_
  refine g_seq ?_
  refine g_region ?_
  obtain ⟨x1, hx1, hm⟩ := bind_some hm
  refine go_p rfl rfl rfl (o_call0 Try.call41 rfl (w_works02 hx1)) ?_
  refine go_p rfl rfl rfl (o_not rfl) ?_
  refine go_nil ?_
  refine g_cond rfl (fun hc1 => ?_) (fun hc1 => ?_)
  · replace hm := cond_t hc1 hm
    refine g_seq ?_
    refine g_region ?_
    refine go_p rfl rfl rfl (o_assign rfl) ?_
    refine go_nil ?_
    refine g_ret ?_
    exact retK (ret_one' rfl (ret_tmp rfl) (perm_drop _)) (congrArg (fun (p : Bool) => (.bool p : D)) (some_eq hm))
  · replace hm := cond_f hc1 hm
    refine g_skip ?_
    refine g_seq ?_
    refine g_seq ?_
    refine g_region ?_
    refine go_p rfl rfl rfl (o_move rfl) ?_
    refine go_p rfl rfl rfl (o_len_str Try.runUnderlying9 rfl) ?_
    refine go_p rfl rfl rfl (o_cmp rfl rfl rfl) ?_
    refine go_nil ?_
    obtain ⟨o_1, hj1, hm1⟩ := bind_some hm
    refine g_cut_m [(1, _)] [] (fun (st : (List UInt8)) (hid : Unit) => match st, hid with | s2, _ => [(0, .str s2)]) (fun F (st : (List UInt8)) (hid : Unit) => match st, hid with | s2, _ => []) (fun st => st = o_1) ⟨rfl, trivial⟩ trivial ?_ ?_
    · skip
      refine g_cond rfl (fun hc2 => ?_) (fun hc2 => ?_)
      · replace hj1 := cond_t hc2 hj1
        refine g_region ?_
        refine go_p rfl rfl rfl (o_move rfl) ?_
        obtain ⟨s3, hx2, hj1⟩ := bind_some hj1
        refine go_p rfl rfl rfl (o_slice_str_m Try.runUnderlying9 rfl rfl ⟨_, rfl⟩ hx2) ?_
        refine go_p rfl rfl rfl (o_assign rfl) ?_
        refine go_nil ?_
        exact ⟨_, (), some_eq hj1, ⟨rfl, trivial⟩, ⟨rfl, trivial⟩, [], rfl⟩
      · replace hj1 := cond_f hc2 hj1
        refine g_skip ?_
        exact ⟨_, (), some_eq hj1, ⟨rfl, trivial⟩, ⟨rfl, trivial⟩, [], rfl⟩
    · rintro s2 _ hst
      subst hst
      refine k_norm (L' := [(0, .str s2), (1, _)]) (ms' := []) rfl rfl ?_
      refine g_seq ?_
      refine g_region ?_
      refine go_p rfl rfl rfl (o_move rfl) ?_
      obtain ⟨x2, hx3, hm1⟩ := bind_some hm1
      refine go_p rfl rfl rfl (o_call0 Try.call42 rfl (w_q_Print hx3)) ?_
      refine go_p rfl rfl rfl (o_assign rfl) ?_
      refine go_nil ?_
      refine g_seq ?_
      refine g_region ?_
      refine go_p rfl rfl rfl (o_move rfl) ?_
      refine go_p rfl rfl rfl (o_move rfl) ?_
      obtain ⟨hg4, hm1⟩ := grd_some hm1
      refine go_p rfl rfl rfl (o_cat rfl rfl hg4) ?_
      obtain ⟨⟨x3, x4, x5⟩, hx5, hm1⟩ := bind_some hm1
      refine go_p rfl rfl rfl (o_call0 Try.call38 rfl (w_q_Take hx5)) ?_
      refine go_p rfl rfl rfl (o_move rfl) ?_
      refine go_p rfl rfl rfl (o_extract rfl rfl) ?_
      refine go_p rfl rfl rfl (o_extract rfl rfl) ?_
      refine go_p rfl rfl rfl (o_extract rfl rfl) ?_
      refine go_p rfl rfl rfl (o_assign rfl) ?_
      refine go_p rfl rfl rfl (o_assign rfl) ?_
      refine go_p rfl rfl rfl (o_assign rfl) ?_
      refine go_nil ?_
      refine g_seq ?_
      refine g_seq ?_
      refine g_region ?_
      refine go_p rfl rfl rfl (o_move rfl) ?_
      refine go_p rfl rfl rfl (o_len_str Try.runUnderlying9 rfl) ?_
      refine go_p rfl rfl rfl (o_cmp rfl rfl rfl) ?_
      refine go_nil ?_
      refine g_cond rfl (fun hc3 => ?_) (fun hc3 => ?_)
      · replace hm1 := cond_t hc3 hm1
        refine g_seq ?_
        refine g_region ?_
        refine go_p rfl rfl rfl (o_move rfl) ?_
        refine go_p rfl rfl rfl (o_cmp rfl rfl rfl) ?_
        refine go_p rfl rfl rfl (o_move rfl) ?_
        apply go_and [(7, _)] 3 34 (t := 31) ⟨rfl, trivial⟩ rfl
        · intro hg_1 hk1
          refine go_wantp rfl rfl rfl hg_1 rfl rfl (o_move rfl) ?_
          refine go_wantp rfl rfl rfl hg_1 rfl rfl (o_cmps rfl rfl rfl) ?_
          refine go_p rfl rfl rfl (o_pickT rfl hg_1 rfl) ?_
          exact go_meet hk1 (rfl) ⟨rfl, trivial⟩
        · intro hg_1 hk1
          refine go_skip rfl rfl rfl hg_1 rfl rfl ?_
          refine go_skip rfl rfl rfl hg_1 rfl rfl ?_
          refine go_p rfl rfl rfl (o_pickF rfl hg_1 rfl) ?_
          exact go_meet hk1 (rfl) ⟨rfl, trivial⟩
        refine go_p rfl rfl rfl (o_move rfl) ?_
        apply go_and [] 3 38 (t := 35) trivial rfl
        · intro hg_2 hk2
          refine go_wantp rfl rfl rfl hg_2 rfl rfl (o_move rfl) ?_
          refine go_wantp rfl rfl rfl hg_2 rfl rfl (o_cmp rfl rfl rfl) ?_
          refine go_p rfl rfl rfl (o_pickT rfl hg_2 rfl) ?_
          exact go_meet hk2 (rfl) trivial
        · intro hg_2 hk2
          refine go_skip rfl rfl rfl hg_2 rfl rfl ?_
          refine go_skip rfl rfl rfl hg_2 rfl rfl ?_
          refine go_p rfl rfl rfl (o_pickF rfl hg_2 rfl) ?_
          exact go_meet hk2 (rfl) trivial
        refine go_p rfl rfl rfl (o_assign rfl) ?_
        refine go_nil ?_
        refine g_ret ?_
        exact retK (ret_one' rfl (ret_tmp rfl) (perm_drop _)) (congrArg (fun (p : Bool) => (.bool p : D)) (some_eq hm1))
      · replace hm1 := cond_f hc3 hm1
        refine g_skip ?_
        refine g_seq ?_
        refine g_region ?_
        refine go_p rfl rfl rfl (o_move rfl) ?_
        refine go_p rfl rfl rfl (o_cmp rfl rfl rfl) ?_
        refine go_p rfl rfl rfl (o_move rfl) ?_
        apply go_and [(5, _), (7, _)] 4 45 (t := 41) ⟨rfl, rfl, trivial⟩ rfl
        · intro hg_3 hk3
          refine go_wantp rfl rfl rfl hg_3 rfl rfl (o_move rfl) ?_
          refine go_wantp rfl rfl rfl hg_3 rfl rfl (o_move rfl) ?_
          refine go_wantp rfl rfl rfl hg_3 rfl rfl (o_cmps rfl rfl rfl) ?_
          refine go_p rfl rfl rfl (o_pickT rfl hg_3 rfl) ?_
          exact go_meet hk3 (rfl) ⟨rfl, rfl, trivial⟩
        · intro hg_3 hk3
          refine go_skip rfl rfl rfl hg_3 rfl rfl ?_
          refine go_skip rfl rfl rfl hg_3 rfl rfl ?_
          refine go_skip rfl rfl rfl hg_3 rfl rfl ?_
          refine go_p rfl rfl rfl (o_pickF rfl hg_3 rfl) ?_
          exact go_meet hk3 (rfl) ⟨rfl, rfl, trivial⟩
        refine go_p rfl rfl rfl (o_move rfl) ?_
        apply go_and [] 5 51 (t := 46) trivial rfl
        · intro hg_4 hk4
          refine go_wantp rfl rfl rfl hg_4 rfl rfl (o_move rfl) ?_
          refine go_wantp rfl rfl rfl hg_4 rfl rfl (o_move rfl) ?_
          refine go_wantp rfl rfl rfl hg_4 rfl rfl (o_len_str Try.runUnderlying9 rfl) ?_
          refine go_wantp rfl rfl rfl hg_4 rfl rfl (o_cmp rfl rfl rfl) ?_
          refine go_p rfl rfl rfl (o_pickT rfl hg_4 rfl) ?_
          exact go_meet hk4 (rfl) trivial
        · intro hg_4 hk4
          refine go_skip rfl rfl rfl hg_4 rfl rfl ?_
          refine go_skip rfl rfl rfl hg_4 rfl rfl ?_
          refine go_skip rfl rfl rfl hg_4 rfl rfl ?_
          refine go_skip rfl rfl rfl hg_4 rfl rfl ?_
          refine go_p rfl rfl rfl (o_pickF rfl hg_4 rfl) ?_
          exact go_meet hk4 (rfl) trivial
        refine go_p rfl rfl rfl (o_assign rfl) ?_
        refine go_nil ?_
        refine g_ret ?_
        exact retK (ret_one' rfl (ret_tmp rfl) (perm_drop _)) (congrArg (fun (p : Bool) => (.bool p : D)) (some_eq hm1))

def m_QuotePrints (s1 : (List UInt8)) : Option Bool :=
  (bif (decide (1500 < (s1.length : Int))) then
    (sli s1 0 1500).bind fun s3 =>
    some s3
  else
    some s1 : Option (List UInt8)).bind fun s2 =>
  (m_q_Print s2).bind fun x1 =>
  (m_r_Print s2).bind fun x2 =>
  bif (decide ((x1 : List UInt8) = x2)) then ((m_q_Cut s2).bind fun x3 =>
  (sli s2 0 (if 1000 < (s2.length : Int) then 1000 else (s2.length : Int))).bind fun s4 =>
  bif (decide ((x3 : List UInt8) = s4)) then ((m_works02).bind fun x4 =>
  some x4) else (some false)) else (some false)
theorem w_QuotePrints {s1 : (List UInt8)} {r : Bool} (hm : m_QuotePrints s1 = some r) : Fn0 Try.prog 9 [.str s1] (.bool r) := by
  unfold m_QuotePrints at hm
  refine fn_intro Try.func9 rfl Try.ntmps9 rfl fun H0 fr w0 => ?_
  refine g_seq ?_
  refine g_region ?_
  refine go_p rfl rfl rfl (o_assign rfl) ?_
  refine go_nil ?_
  refine g_seq ?_
  refine g_seq ?_
  refine g_region ?_
  refine go_p rfl rfl rfl (o_move rfl) ?_
  refine go_p rfl rfl rfl (o_len_str Try.runUnderlying9 rfl) ?_
  refine go_p rfl rfl rfl (o_cmp rfl rfl rfl) ?_
  refine go_nil ?_
  obtain ⟨o_1, hj1, hm1⟩ := bind_some hm
  refine g_cut_m [] [] (fun (st : (List UInt8)) (hid : Unit) => match st, hid with | s2, _ => [(0, .str s2)]) (fun F (st : (List UInt8)) (hid : Unit) => match st, hid with | s2, _ => []) (fun st => st = o_1) trivial trivial ?_ ?_
  · skip
    refine g_cond rfl (fun hc1 => ?_) (fun hc1 => ?_)
    · replace hj1 := cond_t hc1 hj1
      refine g_region ?_
      refine go_p rfl rfl rfl (o_move rfl) ?_
      obtain ⟨s3, hx1, hj1⟩ := bind_some hj1
      refine go_p rfl rfl rfl (o_slice_str_m Try.runUnderlying9 rfl rfl ⟨_, rfl⟩ hx1) ?_
      refine go_p rfl rfl rfl (o_assign rfl) ?_
      refine go_nil ?_
      exact ⟨_, (), some_eq hj1, ⟨rfl, trivial⟩, trivial, [], rfl⟩
    · replace hj1 := cond_f hc1 hj1
      refine g_skip ?_
      exact ⟨_, (), some_eq hj1, ⟨rfl, trivial⟩, trivial, [], rfl⟩
  · rintro s2 _ hst
    subst hst
    refine k_norm (L' := [(0, .str s2)]) (ms' := []) rfl rfl ?_
    refine g_seq ?_
    obtain ⟨x1, hx2, hm1⟩ := bind_some hm1
    obtain ⟨x2, hx3, hm1⟩ := bind_some hm1
    rcases cond_split hm1 with ⟨hg_1, hm1⟩ | ⟨hg_1, hm1⟩
    ·
      skip
      obtain ⟨x3, hx4, hm1⟩ := bind_some hm1
      obtain ⟨s4, hx5, hm1⟩ := bind_some hm1
      rcases cond_split hm1 with ⟨hg_2, hm1⟩ | ⟨hg_2, hm1⟩
      ·
        skip
        obtain ⟨x4, hx6, hm1⟩ := bind_some hm1
        refine g_draw 19 Try_mixed (by decide +kernel) ?_
        refine gd_p rfl rfl rfl (o_move rfl) ?_
        refine gd_p rfl rfl rfl (o_call0 Try.call42 rfl (w_q_Print hx2)) ?_
        refine gd_p rfl rfl rfl (o_move rfl) ?_
        refine gd_p rfl rfl rfl (o_call0 Try.call43 rfl (w_r_Print hx3)) ?_
        refine gd_p rfl rfl rfl (o_cmps rfl rfl rfl) ?_
        refine gd_p rfl rfl rfl (o_move rfl) ?_
        refine gd_want rfl rfl rfl hg_1 rfl rfl (o_move rfl) ?_
        refine gd_want rfl rfl rfl hg_1 rfl rfl (o_call0 Try.call44 rfl (w_q_Cut hx4)) ?_
        refine gd_want rfl rfl rfl hg_1 rfl rfl (o_move rfl) ?_
        refine gd_want rfl rfl rfl hg_1 rfl rfl (o_move rfl) ?_
        refine gd_want rfl rfl rfl hg_1 rfl rfl (o_len_str Try.runUnderlying9 rfl) ?_
        refine gd_want rfl rfl rfl hg_1 rfl rfl (o_min rfl rfl) ?_
        refine gd_want rfl rfl rfl hg_1 rfl rfl (o_slice_str_m Try.runUnderlying9 rfl rfl ⟨_, rfl⟩ hx5) ?_
        refine gd_want rfl rfl rfl hg_1 rfl rfl (o_cmps rfl rfl rfl) ?_
        refine gd_p rfl rfl rfl (o_pickT rfl hg_1 rfl) ?_
        refine gd_p rfl rfl rfl (o_move rfl) ?_
        refine gd_want rfl rfl rfl hg_2 rfl rfl (o_call0 Try.call41 rfl (w_works02 hx6)) ?_
        refine gd_p rfl rfl rfl (o_pickT rfl hg_2 rfl) ?_
        refine gd_p rfl rfl rfl (o_assign rfl) ?_
        refine gd_nil ?_
        refine go_nil ?_
        refine g_ret ?_
        exact retK (ret_one' rfl (ret_tmp rfl) (perm_drop _)) (congrArg (fun (p : Bool) => (.bool p : D)) (some_eq hm1))
      ·
        skip
        refine g_draw 19 Try_mixed (by decide +kernel) ?_
        refine gd_p rfl rfl rfl (o_move rfl) ?_
        refine gd_p rfl rfl rfl (o_call0 Try.call42 rfl (w_q_Print hx2)) ?_
        refine gd_p rfl rfl rfl (o_move rfl) ?_
        refine gd_p rfl rfl rfl (o_call0 Try.call43 rfl (w_r_Print hx3)) ?_
        refine gd_p rfl rfl rfl (o_cmps rfl rfl rfl) ?_
        refine gd_p rfl rfl rfl (o_move rfl) ?_
        refine gd_want rfl rfl rfl hg_1 rfl rfl (o_move rfl) ?_
        refine gd_want rfl rfl rfl hg_1 rfl rfl (o_call0 Try.call44 rfl (w_q_Cut hx4)) ?_
        refine gd_want rfl rfl rfl hg_1 rfl rfl (o_move rfl) ?_
        refine gd_want rfl rfl rfl hg_1 rfl rfl (o_move rfl) ?_
        refine gd_want rfl rfl rfl hg_1 rfl rfl (o_len_str Try.runUnderlying9 rfl) ?_
        refine gd_want rfl rfl rfl hg_1 rfl rfl (o_min rfl rfl) ?_
        refine gd_want rfl rfl rfl hg_1 rfl rfl (o_slice_str_m Try.runUnderlying9 rfl rfl ⟨_, rfl⟩ hx5) ?_
        refine gd_want rfl rfl rfl hg_1 rfl rfl (o_cmps rfl rfl rfl) ?_
        refine gd_p rfl rfl rfl (o_pickT rfl hg_1 rfl) ?_
        refine gd_p rfl rfl rfl (o_move rfl) ?_
        refine gd_skip rfl rfl rfl hg_2 rfl rfl ?_
        refine gd_p rfl rfl rfl (o_pickF rfl hg_2 rfl) ?_
        refine gd_p rfl rfl rfl (o_assign rfl) ?_
        refine gd_nil ?_
        refine go_nil ?_
        refine g_ret ?_
        exact retK (ret_one' rfl (ret_tmp rfl) (perm_drop _)) (congrArg (fun (p : Bool) => (.bool p : D)) (some_eq hm1))
    ·
      skip
      refine g_draw 19 Try_mixed (by decide +kernel) ?_
      refine gd_p rfl rfl rfl (o_move rfl) ?_
      refine gd_p rfl rfl rfl (o_call0 Try.call42 rfl (w_q_Print hx2)) ?_
      refine gd_p rfl rfl rfl (o_move rfl) ?_
      refine gd_p rfl rfl rfl (o_call0 Try.call43 rfl (w_r_Print hx3)) ?_
      refine gd_p rfl rfl rfl (o_cmps rfl rfl rfl) ?_
      refine gd_p rfl rfl rfl (o_move rfl) ?_
      refine gd_skip rfl rfl rfl hg_1 rfl rfl ?_
      refine gd_skip rfl rfl rfl hg_1 rfl rfl ?_
      refine gd_skip rfl rfl rfl hg_1 rfl rfl ?_
      refine gd_skip rfl rfl rfl hg_1 rfl rfl ?_
      refine gd_skip rfl rfl rfl hg_1 rfl rfl ?_
      refine gd_skip rfl rfl rfl hg_1 rfl rfl ?_
      refine gd_skip rfl rfl rfl hg_1 rfl rfl ?_
      refine gd_skip rfl rfl rfl hg_1 rfl rfl ?_
      refine gd_p rfl rfl rfl (o_pickF rfl hg_1 rfl) ?_
      refine gd_p rfl rfl rfl (o_move rfl) ?_
      refine gd_skip rfl rfl rfl rfl rfl rfl ?_
      refine gd_p rfl rfl rfl (o_pickF rfl rfl rfl) ?_
      refine gd_p rfl rfl rfl (o_assign rfl) ?_
      refine gd_nil ?_
      refine go_nil ?_
      refine g_ret ?_
      exact retK (ret_one' rfl (ret_tmp rfl) (perm_drop _)) (congrArg (fun (p : Bool) => (.bool p : D)) (some_eq hm1))

end Go.Proofs.Ytfcifodaohhcbaa
