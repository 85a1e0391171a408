/- Part 3 of the proof: a program logic, what the functions compute, and what these answer; no condition. -/
import Derived.Test.Ytnnjgbcojdnhhaap2
import Derived.Test.YtnnjgbcojdnhhaaProg
set_option linter.unusedVariables false
set_option linter.unusedSimpArgs false
set_option maxRecDepth 100000
set_option maxHeartbeats 2000000
namespace Go.Proofs.Ytnnjgbcojdnhhaa
open Go.V
theorem Try_mixed : Try.prog.follows .mixedOrders = true := by kernel_rfl
theorem idx_extern (s : List UInt8) (c : UInt8) : ∀ (H : PH) (w : World) (vs : List Value), ConcL H [.str s, .u8 c] vs → ∃ v, (Extern.BytealgIndexByte.indexByte vs.toArray).run Try.prog w = .ok v w ∧ Conc H (.i64 (firstIdx ⟨s.toArray⟩ c)) v := by
  intro H w vs h
  simp only [ConcL] at h
  obtain ⟨u1, _, rfl, h1, u2, _, rfl, h2, rfl⟩ := h
  have e1 := conc_v.1 (show Conc H (.str s) u1 from h1)
  have e2 := conc_v.1 (show Conc H (.u8 c) u2 from h2)
  subst e1 e2
  refine ⟨_, run_indexByte_string _ _ w, conc_v.2 ?_⟩
  simp
structure ApiField where
  name : (List UInt8)
  var : (List UInt8)
  at_ : Int
def ApiField.d (x : ApiField) : D := .agg [.str x.name, .str x.var, .i64 x.at_]
theorem idxByte0 (s : List UInt8) (c : UInt8) :
    Fn0 Try.prog 152 [.str s, .u8 c] (.i64 (firstIdx ⟨s.toArray⟩ c)) := by
  refine fn_intro Try.func152 rfl Try.ntmps152 rfl fun H0 fr w0 => ?_
  refine g_seq ?_
  refine g_region ?_
  refine go_p rfl rfl rfl (o_assign rfl) ?_
  refine go_nil ?_
  refine g_seq ?_
  refine g_region ?_
  refine go_p rfl rfl rfl (o_move rfl) ?_
  refine go_p rfl rfl rfl (o_move rfl) ?_
  refine go_p rfl rfl rfl (o_extern (e := Extern.BytealgIndexByte.indexByte) (fun args w => run_callFunc_extern Try.func158 (by kernel_rfl) (by kernel_rfl) (by kernel_rfl) (by kernel_rfl) args w) rfl (idx_extern _ _)) ?_
  refine go_p rfl rfl rfl (o_assign rfl) ?_
  refine go_nil ?_
  refine g_ret ?_
  exact retK (ret_one' rfl (ret_tmp rfl) (perm_drop _)) (by rfl) -- ret1 
theorem idxByte (s : List UInt8) (c : UInt8) :
    Fn0 Try.prog 134 [.str s, .u8 c] (.i64 (firstIdx ⟨s.toArray⟩ c)) := by
  refine fn_intro Try.func134 rfl Try.ntmps134 rfl fun H0 fr w0 => ?_
  refine g_seq ?_
  refine g_region ?_
  refine go_p rfl rfl rfl (o_assign rfl) ?_
  refine go_nil ?_
  refine g_seq ?_
  refine g_region ?_
  refine go_p rfl rfl rfl (o_move rfl) ?_
  refine go_p rfl rfl rfl (o_move rfl) ?_
  refine go_p rfl rfl rfl (o_call0 Try.call152 rfl (idxByte0 _ _)) ?_
  refine go_p rfl rfl rfl (o_assign rfl) ?_
  refine go_nil ?_
  refine g_ret ?_
  exact retK (ret_one' rfl (ret_tmp rfl) (perm_drop _)) (by rfl) -- ret1 
theorem fi_160_0 : FieldIs Try.prog 160 0 0 1 false := ⟨⟨_, _, Try.runUnderlying160, rfl, rfl, Try.sizeOf158, by decide, Try.isAgg158⟩⟩
theorem sb_copyCheck (b : Nat) (p a : Option Addr) (n cap : Nat) (hp : p = none ∨ p = some ⟨b, 0, none⟩) :
    Go.V.Fn Try.prog 168 [.v (.pointer (some ⟨b, 0, none⟩))] [box b 160 [.v (.pointer p), .v (.slice a n cap)]] (fun _ ms' => ms' = [box b 160 [.v (.pointer (some ⟨b, 0, none⟩)), .v (.slice a n cap)]]) := by
  refine fn_intro Try.func168 rfl Try.ntmps168 rfl fun H0 fr w0 => ?_
  refine g_seq ?_
  refine g_region ?_
  refine go_p rfl rfl rfl (o_move rfl) ?_
  refine go_p rfl rfl rfl (o_nilCheck_box rfl) ?_
  refine go_p rfl rfl rfl (o_fieldAddr_box fi_160_0 rfl) ?_
  refine go_p rfl rfl rfl (o_load_box 0 Try.isAgg158 rfl rfl rfl rfl) ?_
  refine go_p rfl rfl rfl (o_eqnil Try.runUnderlying158 rfl (nilP_opt p) rfl) ?_
  refine go_nil ?_
  refine g_cond rfl (fun hc1 => ?_) (fun hc1 => ?_)
  · -- 1T
    skip
    obtain rfl : p = none := by simpa using hc1
    refine g_region ?_
    refine go_p rfl rfl rfl (o_move rfl) ?_
    refine go_p rfl rfl rfl (o_move rfl) ?_
    refine go_p rfl rfl rfl (o_to_unsafe 0 Try.underlying158 Try.underlying169 Try.type160 (by decide) rfl rfl rfl rfl) ?_
    refine go_p rfl rfl rfl (o_extern (e := Extern.AbiNoEscape.same) (fun args w => run_callFunc_extern Try.func169 (by kernel_rfl) (by kernel_rfl) (by kernel_rfl) (by kernel_rfl) args w) rfl (fun H w vs hv => by simp only [ConcL] at hv; obtain ⟨u, _, rfl, hu, rfl⟩ := hv; exact ⟨u, Lib.run_noEscape _ _, hu⟩)) ?_
    refine go_p rfl rfl rfl (o_from_unsafe 0 Try.underlying169 Try.underlying158 Try.type160 rfl rfl rfl rfl (by kernel_rfl)) ?_
    refine go_p rfl rfl rfl (o_nilCheck_box rfl) ?_
    refine go_p rfl rfl rfl (o_fieldAddr_box fi_160_0 rfl) ?_
    refine go_u rfl rfl (o_store_box 0 Try.sizeOf158 rfl rfl rfl rfl rfl rfl rfl rfl (Nat.le_of_ble_eq_true rfl)) ?_
    rintro _ _ rfl
    refine go_nil ?_
    exact retKn (ret_none rfl (perm_none _)) (rfl) -- ret1 1T.
  · -- 1F
    skip
    obtain rfl : p = some ⟨b, 0, none⟩ := by
      rcases hp with h | h
      · rw [h] at hc1; simp at hc1
      · exact h
    refine g_seq ?_
    refine g_region ?_
    refine go_p rfl rfl rfl (o_move rfl) ?_
    refine go_p rfl rfl rfl (o_nilCheck_box rfl) ?_
    refine go_p rfl rfl rfl (o_fieldAddr_box fi_160_0 rfl) ?_
    refine go_p rfl rfl rfl (o_load_box 0 Try.isAgg158 rfl rfl rfl rfl) ?_
    refine go_p rfl rfl rfl (o_move rfl) ?_
    refine go_p rfl rfl rfl (o_neqsame Try.runUnderlying158 Try.sizeOf160 (by decide) rfl rfl) ?_
    refine go_nil ?_
    refine g_cond_false rfl (by rfl) ?_
    refine g_skip ?_
    exact retKn (ret_none rfl (perm_none _)) (rfl) -- ret2 1F.
theorem fi_160_1 : FieldIs Try.prog 160 1 1 1 false := ⟨⟨_, _, Try.runUnderlying160, rfl, rfl, Try.sizeOf145, by decide, Try.isAgg145⟩⟩
theorem sb_WriteByte (b : Nat) (p a : Option Addr) (cap : Nat) (s : List UInt8) (n : Nat) (hn : s.length = n) (hp : p = none ∨ p = some ⟨b, 0, none⟩) (hs : s.length + 1 ≤ 140737488355328) (c : UInt8) (m : Int) (hm : m = c.toNat) :
    Go.V.Fn Try.prog 164 [.v (.pointer (some ⟨b, 0, none⟩)), .v (.int .u8 m)] [box b 160 [.v (.pointer p), .v (.slice a n cap)], row a cap 5 1 D.u8 s] (fun _ ms' => ∃ a' cap', ms' = [box b 160 [.v (.pointer (some ⟨b, 0, none⟩)), .v (.slice a' (s ++ [c]).length cap')], row a' cap' 5 1 D.u8 (s ++ [c])]) := by
  subst hn hm
  refine fn_intro Try.func164 rfl Try.ntmps164 rfl fun H0 fr w0 => ?_
  refine g_seq ?_
  refine g_region ?_
  refine go_p rfl rfl rfl (o_assign rfl) ?_
  refine go_nil ?_
  refine g_seq ?_
  refine g_region ?_
  refine go_p rfl rfl rfl (o_move rfl) ?_
  refine go_op rfl rfl rfl (o_call Try.call168 rfl (List.Perm.refl _) (sb_copyCheck b p a s.length cap hp)) ?_
  rintro _ _ ⟨_, rfl, rfl⟩
  refine go_nil ?_
  refine g_seq ?_
  refine g_region ?_
  refine go_p rfl rfl rfl (o_move rfl) ?_
  refine go_p rfl rfl rfl (o_move rfl) ?_
  refine go_p rfl rfl rfl (o_nilCheck_box rfl) ?_
  refine go_p rfl rfl rfl (o_fieldAddr_box fi_160_1 rfl) ?_
  refine go_p rfl rfl rfl (o_load_box 0 Try.isAgg145 rfl rfl rfl rfl) ?_
  refine go_p rfl rfl rfl (o_move rfl) ?_
  refine go_p rfl rfl rfl (o_buildSlice (xs := [_]) (f := D.u8) (l := [_]) Try.runUnderlying145 Try.sizeOf5 Try.zeroValue5 rfl rfl rfl (fun _ => ⟨rfl, rfl, rfl⟩) rfl) ?_
  refine go_op rfl rfl rfl (o_append (a := _) 1 Try.underlying145 Try.type5 rfl rfl rfl rfl rfl rfl rfl (fun _ => rfl) (fun _ => rfl) (by simp [Try.t5]; omega) (by simp [maxLen]; omega)) ?_
  rintro _ _ ⟨a1, cap1, rfl, rfl⟩
  refine go_p rfl rfl rfl (o_nilCheck_box rfl) ?_
  refine go_p rfl rfl rfl (o_fieldAddr_box fi_160_1 rfl) ?_
  refine go_u rfl rfl (o_store_box 0 Try.sizeOf145 rfl rfl rfl rfl rfl rfl rfl rfl (Nat.le_of_ble_eq_true rfl)) ?_
  rintro _ _ rfl
  refine go_nil ?_
  refine g_seq ?_
  refine g_region ?_
  refine go_p rfl rfl rfl (o_assign rfl) ?_
  refine go_nil ?_
  refine g_ret ?_
  exact retK (ret_one' rfl (ret_tmp rfl) (perm_none _)) (⟨_, _, rfl⟩) -- ret1 
theorem sb_WriteByteC (b : Nat) (p a : Option Addr) (cap : Nat) (s : List UInt8) (n : Nat) (hn : s.length = n) (hp : p = none ∨ p = some ⟨b, 0, none⟩) (hs : s.length + 1 ≤ 140737488355328) (c : UInt8) :
    Go.V.Fn Try.prog 164 [.v (.pointer (some ⟨b, 0, none⟩)), .u8 c] [box b 160 [.v (.pointer p), .v (.slice a n cap)], row a cap 5 1 D.u8 s] (fun _ ms' => ∃ a' cap', ms' = [box b 160 [.v (.pointer (some ⟨b, 0, none⟩)), .v (.slice a' (s ++ [c]).length cap')], row a' cap' 5 1 D.u8 (s ++ [c])]) := sb_WriteByte b p a cap s n hn hp hs c _ rfl
theorem sb_Len (b : Nat) (p a : Option Addr) (cap : Nat) (s : List UInt8) (n : Nat) (hn : s.length = n) (hp : p = none ∨ p = some ⟨b, 0, none⟩) :
    Go.V.Fn Try.prog 161 [.v (.pointer (some ⟨b, 0, none⟩))] [box b 160 [.v (.pointer p), .v (.slice a n cap)], row a cap 5 1 D.u8 s] (fun r ms' => r = .i64 n ∧ ms' = [box b 160 [.v (.pointer p), .v (.slice a n cap)], row a cap 5 1 D.u8 s]) := by
  subst hn
  refine fn_intro Try.func161 rfl Try.ntmps161 rfl fun H0 fr w0 => ?_
  refine g_seq ?_
  refine g_region ?_
  refine go_p rfl rfl rfl (o_assign rfl) ?_
  refine go_nil ?_
  refine g_seq ?_
  refine g_region ?_
  refine go_p rfl rfl rfl (o_move rfl) ?_
  refine go_p rfl rfl rfl (o_nilCheck_box rfl) ?_
  refine go_p rfl rfl rfl (o_fieldAddr_box fi_160_1 rfl) ?_
  refine go_p rfl rfl rfl (o_load_box 0 Try.isAgg145 rfl rfl rfl rfl) ?_
  refine go_conv (refines_peek (i := 6) 1 rfl rfl rfl) ?_
  refine go_p rfl rfl rfl (o_len Try.runUnderlying145 rfl) ?_
  refine go_p rfl rfl rfl (o_assign rfl) ?_
  refine go_nil ?_
  refine g_ret ?_
  exact retK (ret_one' rfl (ret_tmp rfl) (perm_none _)) (⟨rfl, rfl⟩) -- ret1 
theorem sb_String (b : Nat) (p a : Option Addr) (cap : Nat) (s : List UInt8) (n : Nat) (hn : s.length = n) (hp : p = none ∨ p = some ⟨b, 0, none⟩) (h0 : s = [] → a = none) :
    Go.V.Fn Try.prog 162 [.v (.pointer (some ⟨b, 0, none⟩))] [box b 160 [.v (.pointer p), .v (.slice a n cap)], row a cap 5 1 D.u8 s] (fun r ms' => r = .str s ∧ ms' = []) := by
  subst hn
  refine fn_intro Try.func162 rfl Try.ntmps162 rfl fun H0 fr w0 => ?_
  refine g_seq ?_
  refine g_region ?_
  refine go_p rfl rfl rfl (o_assign rfl) ?_
  refine go_nil ?_
  refine g_seq ?_
  refine g_draw 10 Try_mixed (by decide +kernel) ?_
  refine gd_p rfl rfl rfl (o_move rfl) ?_
  refine gd_p rfl rfl rfl (o_nilCheck_box rfl) ?_
  refine gd_p rfl rfl rfl (o_fieldAddr_box fi_160_1 rfl) ?_
  refine gd_p rfl rfl rfl (o_load_box 0 Try.isAgg145 rfl rfl rfl rfl) ?_
  refine gd_p rfl rfl rfl (o_usd 1 rfl rfl h0) ?_
  refine gd_p rfl rfl rfl (o_move rfl) ?_
  refine gd_p rfl rfl rfl (o_nilCheck_box rfl) ?_
  refine gd_p rfl rfl rfl (o_fieldAddr_box fi_160_1 rfl) ?_
  refine gd_p rfl rfl rfl (o_load_box 0 Try.isAgg145 rfl rfl rfl rfl) ?_
  refine gd_conv (peekE (i := 11) 1 rfl rfl rfl) ?_
  refine gd_p rfl rfl rfl (o_len Try.runUnderlying145 rfl) ?_
  refine gd_nil ?_
  refine go_op rfl rfl rfl (o_unsafeString 1 Try.underlying168 (by kernel_rfl) rfl rfl rfl h0) ?_
  rintro _ _ ⟨rfl, rfl⟩
  refine go_p rfl rfl rfl (o_assign rfl) ?_
  refine go_nil ?_
  refine g_ret ?_
  exact retK (ret_one' rfl (ret_tmp rfl) (perm_drop _)) (⟨rfl, rfl⟩) -- ret1 
theorem w_sb_WriteByte {b : Nat} {a : Option Addr} {s : List UInt8} (c : UInt8) (hs : s.length + 1 ≤ 140737488355328) : Go.V.Fn Try.prog 164 [.v (.pointer (some ⟨b, 0, none⟩)), .u8 c] [bld b 160 5 a s] (fun d ms' => True ∧ ∃ a', ms' = [bld b 160 5 a' (s ++ [c])]) :=
  fn_bld fun p cap hp hl => (sb_WriteByteC b p a cap s s.length rfl hp hs c).mono fun d ms' ⟨a', cap', h⟩ => ⟨_, a', cap', h, .inr rfl, by simp, trivial⟩
theorem w_sb_Len {b : Nat} {a : Option Addr} {s : List UInt8} : Go.V.Fn Try.prog 161 [.v (.pointer (some ⟨b, 0, none⟩))] [bld b 160 5 a s] (fun d ms' => d = .i64 s.length ∧ ∃ a', ms' = [bld b 160 5 a' s]) :=
  fn_bld fun p cap hp hl => (sb_Len b p a cap s s.length rfl hp).mono fun d ms' ⟨h1, h2⟩ => ⟨p, a, cap, h2, hp, hl, h1⟩
theorem w_sb_String {b : Nat} {a : Option Addr} {s : List UInt8} : Go.V.Fn Try.prog 162 [.v (.pointer (some ⟨b, 0, none⟩))] [bld b 160 5 a s] (fun d ms' => d = .str s ∧ ms' = []) :=
  fn_bld_end fun p cap hp hl => sb_String b p a cap s s.length rfl hp hl
def m_lex_pass_l1 (s1 : (List UInt8)) : Nat → Int → Option (Out Int Int)
  | 0, _ => none
  | n + 1, n2 =>
    bif (decide (n2 < (s1.length : Int))) then
      (idx s1 n2).bind fun c1 =>
      bif (decide (0 ≤ (firstIdx ⟨([32, 9, 10] : List UInt8).toArray⟩ c1))) then
        grd (InR (n2 + 1)) <|
        m_lex_pass_l1 s1 n (n2 + 1)
      else
        (idx s1 n2).bind fun c2 =>
        bif (decide ((c2.toNat : Int) = 35)) then
          (sli s1 n2 (s1.length : Int)).bind fun s2 =>
          bif (decide ((firstIdx ⟨s2.toArray⟩ (10 : UInt8)) < 0)) then
            some (Out.ret (s1.length : Int))
          else
            grd (InR (n2 + (firstIdx ⟨s2.toArray⟩ (10 : UInt8)))) <|
            m_lex_pass_l1 s1 n (n2 + (firstIdx ⟨s2.toArray⟩ (10 : UInt8)))
        else
          some (Out.ret n2)
    else
      some (Out.go (n2))
def m_lex_pass (s1 : (List UInt8)) : Option Int :=
  ((m_lex_pass_l1 s1 FU 0 : Option (Out Int Int))).bind (fun oo => oo.on (fun r1 => some r1) (fun n1 =>
  some n1))
theorem w_lex_pass {s1 : (List UInt8)} {r_1 : Int} (hm : m_lex_pass s1 = some r_1) : Fn0 Try.prog 103 [.str s1] (.i64 r_1) := by
  unfold m_lex_pass at hm
  refine fn_intro Try.func103 rfl Try.ntmps103 rfl fun H0 fr w0 => ?_
  refine g_seq ?_
  refine g_region ?_
  refine go_p rfl rfl rfl (o_assign rfl) ?_
  refine go_nil ?_
  refine g_seq ?_
  refine g_region ?_
  refine go_p rfl rfl rfl (o_assign rfl) ?_
  refine go_nil ?_
  refine g_seq ?_
  obtain ⟨o_1, hj1, hm1⟩ := bind_some hm
  refine g_cut_m [] [] (fun (st : Int) (hid : Unit) => match st, hid with | n1, _ => [(3, .i64 n1)]) (fun F (st : Int) (hid : Unit) => match st, hid with | n1, _ => []) (fun st => Out.go (st) = o_1) trivial trivial ?_ ?_
  · skip
    refine g_block ?_
    refine g_loop_m [(0, _)] [] (fun (st : Int) (hid : Unit) => match st, hid with | n2, _ => [(3, .i64 n2)]) (fun F (st : Int) (hid : Unit) => match st, hid with | n2, _ => []) () hj1 (fun _ => rfl) ⟨rfl, trivial⟩ trivial ⟨rfl, trivial⟩ rfl ?_
    rintro n n2 _ hj1
    rw [m_lex_pass_l1] at hj1
    refine g_norm (L' := [(3, .i64 n2), (0, _)]) (ms' := []) rfl rfl ?_
    refine g_seq ?_
    refine g_seq ?_
    refine g_region ?_
    refine go_p rfl rfl rfl (o_move rfl) ?_
    refine go_p rfl rfl rfl (o_move rfl) ?_
    refine go_p rfl rfl rfl (o_len_str Try.runUnderlying9 rfl) ?_
    refine go_p rfl rfl rfl (o_cmp rfl rfl rfl) ?_
    refine go_nil ?_
    refine g_cond rfl (fun hc1 => ?_) (fun hc1 => ?_)
    · replace hj1 := cond_t hc1 hj1
      refine g_skip ?_
      refine g_block ?_
      refine g_block ?_
      refine g_seq ?_
      refine g_region ?_
      refine go_p rfl rfl rfl (o_move rfl) ?_
      refine go_p rfl rfl rfl (o_move rfl) ?_
      obtain ⟨c1, hx1, hj1⟩ := bind_some hj1
      refine go_p rfl rfl rfl (o_index_m Try.runUnderlying9 rfl rfl hx1) ?_
      refine go_p rfl rfl rfl (o_call0 Try.call134 rfl (idxByte ([32, 9, 10] : List UInt8) _)) ?_
      refine go_p rfl rfl rfl (o_cmp rfl rfl rfl) ?_
      refine go_p rfl rfl rfl (o_assign rfl) ?_
      refine go_nil ?_
      refine g_cond rfl (fun hc2 => ?_) (fun hc2 => ?_)
      · replace hj1 := cond_t hc2 hj1
        refine g_region ?_
        refine go_p rfl rfl rfl (o_move rfl) ?_
        obtain ⟨hg2, hj1⟩ := grd_some hj1
        refine go_p rfl rfl rfl (o_add rfl rfl (i64_id hg2)) ?_
        refine go_p rfl rfl rfl (o_assign rfl) ?_
        refine go_nil ?_
        exact ⟨_, (), hj1, ⟨rfl, trivial⟩, ⟨rfl, trivial⟩, [], rfl⟩
      · replace hj1 := cond_f hc2 hj1
        refine g_seq ?_
        refine g_region ?_
        refine go_p rfl rfl rfl (o_move rfl) ?_
        refine go_p rfl rfl rfl (o_move rfl) ?_
        obtain ⟨c2, hx3, hj1⟩ := bind_some hj1
        refine go_p rfl rfl rfl (o_index_m Try.runUnderlying9 rfl rfl hx3) ?_
        refine go_p rfl rfl rfl (o_cmp rfl rfl rfl) ?_
        refine go_p rfl rfl rfl (o_assign rfl) ?_
        refine go_nil ?_
        refine g_cond rfl (fun hc3 => ?_) (fun hc3 => ?_)
        · replace hj1 := cond_t hc3 hj1
          refine g_seq ?_
          refine g_region ?_
          refine go_p rfl rfl rfl (o_move rfl) ?_
          refine go_p rfl rfl rfl (o_move rfl) ?_
          obtain ⟨s2, hx4, hj1⟩ := bind_some hj1
          refine go_p rfl rfl rfl (o_slice_str_m Try.runUnderlying9 rfl ⟨_, rfl⟩ rfl hx4) ?_
          refine go_p rfl rfl rfl (o_call0 Try.call134 rfl (idxByte _ (10 : UInt8))) ?_
          refine go_p rfl rfl rfl (o_assign rfl) ?_
          refine go_nil ?_
          refine g_seq ?_
          refine g_seq ?_
          refine g_region ?_
          refine go_p rfl rfl rfl (o_move rfl) ?_
          refine go_p rfl rfl rfl (o_cmp rfl rfl rfl) ?_
          refine go_nil ?_
          refine g_cond rfl (fun hc4 => ?_) (fun hc4 => ?_)
          · replace hj1 := cond_t hc4 hj1
            refine g_seq ?_
            refine g_region ?_
            refine go_p rfl rfl rfl (o_move rfl) ?_
            refine go_p rfl rfl rfl (o_len_str Try.runUnderlying9 rfl) ?_
            refine go_p rfl rfl rfl (o_assign rfl) ?_
            refine go_nil ?_
            refine g_ret ?_
            obtain rfl := some_eq hj1
            replace hm1 := on_ret hm1
            exact retK (ret_one' rfl (ret_tmp rfl) (perm_drop _)) (congrArg (fun (p : Int) => (.i64 p : D)) (some_eq hm1))
          · replace hj1 := cond_f hc4 hj1
            refine g_skip ?_
            refine g_region ?_
            refine go_p rfl rfl rfl (o_move rfl) ?_
            refine go_p rfl rfl rfl (o_move rfl) ?_
            obtain ⟨hg5, hj1⟩ := grd_some hj1
            refine go_p rfl rfl rfl (o_add rfl rfl (i64_id hg5)) ?_
            refine go_p rfl rfl rfl (o_assign rfl) ?_
            refine go_nil ?_
            exact ⟨_, (), hj1, ⟨rfl, trivial⟩, ⟨rfl, trivial⟩, [], rfl⟩
        · replace hj1 := cond_f hc3 hj1
          refine g_seq ?_
          refine g_region ?_
          refine go_p rfl rfl rfl (o_move rfl) ?_
          refine go_p rfl rfl rfl (o_assign rfl) ?_
          refine go_nil ?_
          refine g_ret ?_
          obtain rfl := some_eq hj1
          replace hm1 := on_ret hm1
          exact retK (ret_one' rfl (ret_tmp rfl) (perm_drop _)) (congrArg (fun (p : Int) => (.i64 p : D)) (some_eq hm1))
    · replace hj1 := cond_f hc1 hj1
      refine g_exit ?_
      exact ⟨_, (), some_eq hj1, ⟨rfl, trivial⟩, trivial, [], rfl⟩
  · rintro n1 _ hst
    subst hst
    replace hm1 := on_go hm1
    refine k_norm (L' := [(3, .i64 n1)]) (ms' := []) rfl rfl ?_
    refine g_seq ?_
    refine g_region ?_
    refine go_p rfl rfl rfl (o_move rfl) ?_
    refine go_p rfl rfl rfl (o_assign rfl) ?_
    refine go_nil ?_
    refine g_ret ?_
    exact retK (ret_one' rfl (ret_tmp rfl) (perm_drop _)) (congrArg (fun (p : Int) => (.i64 p : D)) (some_eq hm1))
def m_name_small (c1 : UInt8) : Option Bool :=
  some (((decide (97 ≤ (c1.toNat : Int))) && (decide ((c1.toNat : Int) ≤ 122))) || (decide ((c1.toNat : Int) = 95)))
theorem w_name_small {c1 : UInt8} {r_1 : Bool} (hm : m_name_small c1 = some r_1) : Fn0 Try.prog 125 [.u8 c1] (.bool r_1) := by
  unfold m_name_small at hm
  refine fn_intro Try.func125 rfl Try.ntmps125 rfl fun H0 fr w0 => ?_
  refine g_seq ?_
  refine g_region ?_
  refine go_p rfl rfl rfl (o_assign rfl) ?_
  refine go_nil ?_
  refine g_seq ?_
  refine g_region ?_
  refine go_p rfl rfl rfl (o_move rfl) ?_
  refine go_p rfl rfl rfl (o_cmp rfl rfl rfl) ?_
  refine go_p rfl rfl rfl (o_move rfl) ?_
  apply go_and [(0, _)] 3 8 (t := 5) ⟨rfl, trivial⟩ rfl
  · intro hg_1 hk1
    refine go_wantp rfl rfl rfl hg_1 rfl rfl (o_move rfl) ?_
    refine go_wantp rfl rfl rfl hg_1 rfl rfl (o_cmp rfl rfl rfl) ?_
    refine go_p rfl rfl rfl (o_pickT rfl hg_1 rfl) ?_
    exact go_meet hk1 (rfl) ⟨rfl, trivial⟩
  · intro hg_1 hk1
    refine go_skip rfl rfl rfl hg_1 rfl rfl ?_
    refine go_skip rfl rfl rfl hg_1 rfl rfl ?_
    refine go_p rfl rfl rfl (o_pickF rfl hg_1 rfl) ?_
    exact go_meet hk1 (rfl) ⟨rfl, trivial⟩
  refine go_p rfl rfl rfl (o_move rfl) ?_
  apply go_or [] 3 12 (t := 9) trivial rfl
  · intro hg_2 hk2
    refine go_wantp rfl rfl rfl hg_2 rfl rfl (o_move rfl) ?_
    refine go_wantp rfl rfl rfl hg_2 rfl rfl (o_cmp rfl rfl rfl) ?_
    refine go_p rfl rfl rfl (o_pickF rfl hg_2 rfl) ?_
    exact go_meet hk2 (rfl) trivial
  · intro hg_2 hk2
    refine go_skip rfl rfl rfl hg_2 rfl rfl ?_
    refine go_skip rfl rfl rfl hg_2 rfl rfl ?_
    refine go_p rfl rfl rfl (o_pickT rfl hg_2 rfl) ?_
    exact go_meet hk2 (rfl) trivial
  refine go_p rfl rfl rfl (o_assign rfl) ?_
  refine go_nil ?_
  refine g_ret ?_
  exact retK (ret_one' rfl (ret_tmp rfl) (perm_drop _)) (congrArg (fun (p : Bool) => (.bool p : D)) (some_eq hm))
def m_name_great (c1 : UInt8) : Option Bool :=
  some ((decide (65 ≤ (c1.toNat : Int))) && (decide ((c1.toNat : Int) ≤ 90)))
theorem w_name_great {c1 : UInt8} {r_1 : Bool} (hm : m_name_great c1 = some r_1) : Fn0 Try.prog 153 [.u8 c1] (.bool r_1) := by
  unfold m_name_great at hm
  refine fn_intro Try.func153 rfl Try.ntmps153 rfl fun H0 fr w0 => ?_
  refine g_seq ?_
  refine g_region ?_
  refine go_p rfl rfl rfl (o_assign rfl) ?_
  refine go_nil ?_
  refine g_seq ?_
  refine g_region ?_
  refine go_p rfl rfl rfl (o_move rfl) ?_
  refine go_p rfl rfl rfl (o_cmp rfl rfl rfl) ?_
  refine go_p rfl rfl rfl (o_move rfl) ?_
  apply go_and [] 3 8 (t := 5) trivial rfl
  · intro hg_1 hk1
    refine go_wantp rfl rfl rfl hg_1 rfl rfl (o_move rfl) ?_
    refine go_wantp rfl rfl rfl hg_1 rfl rfl (o_cmp rfl rfl rfl) ?_
    refine go_p rfl rfl rfl (o_pickT rfl hg_1 rfl) ?_
    exact go_meet hk1 (rfl) trivial
  · intro hg_1 hk1
    refine go_skip rfl rfl rfl hg_1 rfl rfl ?_
    refine go_skip rfl rfl rfl hg_1 rfl rfl ?_
    refine go_p rfl rfl rfl (o_pickF rfl hg_1 rfl) ?_
    exact go_meet hk1 (rfl) trivial
  refine go_p rfl rfl rfl (o_assign rfl) ?_
  refine go_nil ?_
  refine g_ret ?_
  exact retK (ret_one' rfl (ret_tmp rfl) (perm_drop _)) (congrArg (fun (p : Bool) => (.bool p : D)) (some_eq hm))
def m_name_more (c1 : UInt8) : Option Bool :=
  (m_name_small c1).bind fun x1 =>
  (bif x1 then (some true) else ((m_name_great c1).bind fun x2 =>
  some x2)).bind fun p1 =>
  some (p1 || ((decide (48 ≤ (c1.toNat : Int))) && (decide ((c1.toNat : Int) ≤ 57))))
theorem w_name_more {c1 : UInt8} {r_1 : Bool} (hm : m_name_more c1 = some r_1) : Fn0 Try.prog 154 [.u8 c1] (.bool r_1) := by
  unfold m_name_more at hm
  refine fn_intro Try.func154 rfl Try.ntmps154 rfl fun H0 fr w0 => ?_
  refine g_seq ?_
  refine g_region ?_
  refine go_p rfl rfl rfl (o_assign rfl) ?_
  refine go_nil ?_
  refine g_seq ?_
  refine g_region ?_
  refine go_p rfl rfl rfl (o_move rfl) ?_
  obtain ⟨x1, hx1, hm⟩ := bind_some hm
  refine go_p rfl rfl rfl (o_call0 Try.call125 rfl (w_name_small hx1)) ?_
  refine go_p rfl rfl rfl (o_move rfl) ?_
  obtain ⟨p1, hp_1, hm⟩ := bind_some hm
  refine go_two [(0, _)] 3 8 p1 (t := 5) ⟨rfl, trivial⟩ rfl (fun hg_1 hk1 => ?_) (fun hg_1 hk1 => ?_) ?_
  · replace hp_1 := cond_t hg_1 hp_1
    refine go_skip rfl rfl rfl hg_1 rfl rfl ?_
    refine go_skip rfl rfl rfl hg_1 rfl rfl ?_
    refine go_p rfl rfl rfl (o_pickT rfl hg_1 rfl) ?_
    exact go_meet hk1 (congrArg (fun b => some (D.bool b)) (some_eq hp_1)) ⟨rfl, trivial⟩
  · replace hp_1 := cond_f hg_1 hp_1
    refine go_wantp rfl rfl rfl hg_1 rfl rfl (o_move rfl) ?_
    obtain ⟨x2, hx2, hp_1⟩ := bind_some hp_1
    refine go_wantp rfl rfl rfl hg_1 rfl rfl (o_call0 Try.call153 rfl (w_name_great hx2)) ?_
    refine go_p rfl rfl rfl (o_pickF rfl hg_1 rfl) ?_
    exact go_meet hk1 (congrArg (fun b => some (D.bool b)) (some_eq hp_1)) ⟨rfl, trivial⟩
  refine go_p rfl rfl rfl (o_move rfl) ?_
  apply go_or [] 7 16 (t := 9) trivial rfl
  · intro hg_2 hk2
    refine go_wantp rfl rfl rfl hg_2 rfl rfl (o_move rfl) ?_
    refine go_wantp rfl rfl rfl hg_2 rfl rfl (o_cmp rfl rfl rfl) ?_
    refine go_wantp rfl rfl rfl hg_2 rfl rfl (o_move rfl) ?_
    apply go_and [(9, _)] 3 15 (t := 12) ⟨rfl, trivial⟩ rfl
    · intro hg_3 hk3
      refine go_wantp rfl rfl rfl hg_3 rfl rfl (o_move rfl) ?_
      refine go_wantp rfl rfl rfl hg_3 rfl rfl (o_cmp rfl rfl rfl) ?_
      refine go_wantp rfl rfl rfl hg_2 rfl rfl (o_pickT rfl hg_3 rfl) ?_
      exact go_meet hk3 (rfl) ⟨rfl, trivial⟩
    · intro hg_3 hk3
      refine go_skip rfl rfl rfl hg_3 rfl rfl ?_
      refine go_skip rfl rfl rfl hg_3 rfl rfl ?_
      refine go_wantp rfl rfl rfl hg_2 rfl rfl (o_pickF rfl hg_3 rfl) ?_
      exact go_meet hk3 (rfl) ⟨rfl, trivial⟩
    refine go_p rfl rfl rfl (o_pickF rfl hg_2 rfl) ?_
    exact go_meet hk2 (rfl) trivial
  · intro hg_2 hk2
    refine go_skip rfl rfl rfl hg_2 rfl rfl ?_
    refine go_skip rfl rfl rfl hg_2 rfl rfl ?_
    refine go_skip rfl rfl rfl hg_2 rfl rfl ?_
    refine go_skipu rfl rfl rfl rfl rfl ?_
    refine go_skipu rfl rfl rfl rfl rfl ?_
    refine go_skip rfl rfl rfl hg_2 rfl rfl ?_
    refine go_p rfl rfl rfl (o_pickT rfl hg_2 rfl) ?_
    exact go_meet hk2 (rfl) trivial
  refine go_p rfl rfl rfl (o_assign rfl) ?_
  refine go_nil ?_
  refine g_ret ?_
  exact retK (ret_one' rfl (ret_tmp rfl) (perm_drop _)) (congrArg (fun (p : Bool) => (.bool p : D)) (some_eq hm))
def m_name_Word_l1 (s1 : (List UInt8)) : Nat → Int → Option Int
  | 0, _ => none
  | n + 1, n2 =>
    (bif (decide (n2 < (s1.length : Int))) then ((idx s1 n2).bind fun c3 =>
    (m_name_more c3).bind fun x3 =>
    some x3) else (some false)).bind fun p3 =>
    bif p3 then
      grd (InR (n2 + 1)) <|
      m_name_Word_l1 s1 n (n2 + 1)
    else
      some n2
def m_name_Word (s1 : (List UInt8)) : Option Int :=
  (bif (decide ((s1 : List UInt8) = ([] : List UInt8))) then (some true) else ((idx s1 0).bind fun c1 =>
  (m_name_small c1).bind fun x1 =>
  (bif (!x1) then ((idx s1 0).bind fun c2 =>
  (m_name_great c2).bind fun x2 =>
  some (!x2)) else (some false)).bind fun p2 =>
  some p2)).bind fun p1 =>
  bif p1 then
    some 0
  else
    (m_name_Word_l1 s1 FU 1 : Option Int).bind fun n1 =>
    some n1
theorem w_name_Word {s1 : (List UInt8)} {r_1 : Int} (hm : m_name_Word s1 = some r_1) : Fn0 Try.prog 135 [.str s1] (.i64 r_1) := by
  unfold m_name_Word at hm
  refine fn_intro Try.func135 rfl Try.ntmps135 rfl fun H0 fr w0 => ?_
  refine g_seq ?_
  refine g_region ?_
  refine go_p rfl rfl rfl (o_assign rfl) ?_
  refine go_nil ?_
  refine g_seq ?_
  refine g_seq ?_
  refine g_region ?_
  refine go_p rfl rfl rfl (o_move rfl) ?_
  refine go_p rfl rfl rfl (o_cmps rfl rfl rfl) ?_
  refine go_p rfl rfl rfl (o_move rfl) ?_
  obtain ⟨p1, hp_1, hm⟩ := bind_some hm
  refine go_two [(0, _)] 11 17 p1 (t := 6) ⟨rfl, trivial⟩ rfl (fun hg_1 hk1 => ?_) (fun hg_1 hk1 => ?_) ?_
  · replace hp_1 := cond_t hg_1 hp_1
    refine go_skip rfl rfl rfl hg_1 rfl rfl ?_
    refine go_skip rfl rfl rfl hg_1 rfl rfl ?_
    refine go_skip rfl rfl rfl hg_1 rfl rfl ?_
    refine go_skip rfl rfl rfl hg_1 rfl rfl ?_
    refine go_skip rfl rfl rfl hg_1 rfl rfl ?_
    refine go_skipu rfl rfl rfl rfl rfl ?_
    refine go_skipu rfl rfl rfl rfl rfl ?_
    refine go_skipu rfl rfl rfl rfl rfl ?_
    refine go_skipu rfl rfl rfl rfl rfl ?_
    refine go_skip rfl rfl rfl hg_1 rfl rfl ?_
    refine go_p rfl rfl rfl (o_pickT rfl hg_1 rfl) ?_
    exact go_meet hk1 (congrArg (fun b => some (D.bool b)) (some_eq hp_1)) ⟨rfl, trivial⟩
  · replace hp_1 := cond_f hg_1 hp_1
    refine go_wantp rfl rfl rfl hg_1 rfl rfl (o_move rfl) ?_
    obtain ⟨c1, hx1, hp_1⟩ := bind_some hp_1
    refine go_wantp rfl rfl rfl hg_1 rfl rfl (o_index_m Try.runUnderlying9 rfl rfl hx1) ?_
    obtain ⟨x1, hx2, hp_1⟩ := bind_some hp_1
    refine go_wantp rfl rfl rfl hg_1 rfl rfl (o_call0 Try.call125 rfl (w_name_small hx2)) ?_
    refine go_wantp rfl rfl rfl hg_1 rfl rfl (o_not rfl) ?_
    refine go_wantp rfl rfl rfl hg_1 rfl rfl (o_move rfl) ?_
    obtain ⟨p2, hp_2, hp_1⟩ := bind_some hp_1
    refine go_two [(0, _), (6, _)] 5 16 p2 (t := 11) ⟨rfl, rfl, trivial⟩ rfl (fun hg_2 hk2 => ?_) (fun hg_2 hk2 => ?_) ?_
    · replace hp_2 := cond_t hg_2 hp_2
      refine go_wantp rfl rfl rfl hg_2 rfl rfl (o_move rfl) ?_
      obtain ⟨c2, hx3, hp_2⟩ := bind_some hp_2
      refine go_wantp rfl rfl rfl hg_2 rfl rfl (o_index_m Try.runUnderlying9 rfl rfl hx3) ?_
      obtain ⟨x2, hx4, hp_2⟩ := bind_some hp_2
      refine go_wantp rfl rfl rfl hg_2 rfl rfl (o_call0 Try.call153 rfl (w_name_great hx4)) ?_
      refine go_wantp rfl rfl rfl hg_2 rfl rfl (o_not rfl) ?_
      refine go_wantp rfl rfl rfl hg_1 rfl rfl (o_pickT rfl hg_2 rfl) ?_
      exact go_meet hk2 (congrArg (fun b => some (D.bool b)) (some_eq hp_2)) ⟨rfl, rfl, trivial⟩
    · replace hp_2 := cond_f hg_2 hp_2
      refine go_skip rfl rfl rfl hg_2 rfl rfl ?_
      refine go_skip rfl rfl rfl hg_2 rfl rfl ?_
      refine go_skip rfl rfl rfl hg_2 rfl rfl ?_
      refine go_skip rfl rfl rfl hg_2 rfl rfl ?_
      refine go_wantp rfl rfl rfl hg_1 rfl rfl (o_pickF rfl hg_2 rfl) ?_
      exact go_meet hk2 (congrArg (fun b => some (D.bool b)) (some_eq hp_2)) ⟨rfl, rfl, trivial⟩
    refine go_p rfl rfl rfl (o_pickF rfl hg_1 rfl) ?_
    exact go_meet hk1 (congrArg (fun b => some (D.bool b)) (some_eq hp_1)) ⟨rfl, trivial⟩
  refine go_nil ?_
  refine g_cond rfl (fun hc1 => ?_) (fun hc1 => ?_)
  · replace hm := cond_t hc1 hm
    refine g_seq ?_
    refine g_region ?_
    refine go_p rfl rfl rfl (o_assign rfl) ?_
    refine go_nil ?_
    refine g_ret ?_
    exact retK (ret_one' rfl (ret_tmp rfl) (perm_drop _)) (congrArg (fun (p : Int) => (.i64 p : D)) (some_eq hm))
  · replace hm := cond_f hc1 hm
    refine g_skip ?_
    refine g_seq ?_
    refine g_region ?_
    refine go_p rfl rfl rfl (o_assign rfl) ?_
    refine go_nil ?_
    refine g_seq ?_
    obtain ⟨o_1, hj1, hm1⟩ := bind_some hm
    refine g_cut_m [] [] (fun (st : Int) (hid : Unit) => match st, hid with | n1, _ => [(3, .i64 n1)]) (fun F (st : Int) (hid : Unit) => match st, hid with | n1, _ => []) (fun st => st = o_1) trivial trivial ?_ ?_
    · skip
      refine g_block ?_
      refine g_loop_m [(0, _)] [] (fun (st : Int) (hid : Unit) => match st, hid with | n2, _ => [(3, .i64 n2)]) (fun F (st : Int) (hid : Unit) => match st, hid with | n2, _ => []) () hj1 (fun _ => rfl) ⟨rfl, trivial⟩ trivial ⟨rfl, trivial⟩ rfl ?_
      rintro n n2 _ hj1
      rw [m_name_Word_l1] at hj1
      refine g_norm (L' := [(3, .i64 n2), (0, _)]) (ms' := []) rfl rfl ?_
      refine g_seq ?_
      refine g_seq ?_
      refine g_region ?_
      refine go_p rfl rfl rfl (o_move rfl) ?_
      refine go_p rfl rfl rfl (o_move rfl) ?_
      refine go_p rfl rfl rfl (o_len_str Try.runUnderlying9 rfl) ?_
      refine go_p rfl rfl rfl (o_cmp rfl rfl rfl) ?_
      refine go_p rfl rfl rfl (o_move rfl) ?_
      obtain ⟨p3, hp_3, hj1⟩ := bind_some hj1
      refine go_two [(0, _), (3, _)] 5 27 p3 (t := 22) ⟨rfl, rfl, trivial⟩ rfl (fun hg_3 hk3 => ?_) (fun hg_3 hk3 => ?_) ?_
      · replace hp_3 := cond_t hg_3 hp_3
        refine go_wantp rfl rfl rfl hg_3 rfl rfl (o_move rfl) ?_
        refine go_wantp rfl rfl rfl hg_3 rfl rfl (o_move rfl) ?_
        obtain ⟨c3, hx5, hp_3⟩ := bind_some hp_3
        refine go_wantp rfl rfl rfl hg_3 rfl rfl (o_index_m Try.runUnderlying9 rfl rfl hx5) ?_
        obtain ⟨x3, hx6, hp_3⟩ := bind_some hp_3
        refine go_wantp rfl rfl rfl hg_3 rfl rfl (o_call0 Try.call154 rfl (w_name_more hx6)) ?_
        refine go_p rfl rfl rfl (o_pickT rfl hg_3 rfl) ?_
        exact go_meet hk3 (congrArg (fun b => some (D.bool b)) (some_eq hp_3)) ⟨rfl, rfl, trivial⟩
      · replace hp_3 := cond_f hg_3 hp_3
        refine go_skip rfl rfl rfl hg_3 rfl rfl ?_
        refine go_skip rfl rfl rfl hg_3 rfl rfl ?_
        refine go_skip rfl rfl rfl hg_3 rfl rfl ?_
        refine go_skip rfl rfl rfl hg_3 rfl rfl ?_
        refine go_p rfl rfl rfl (o_pickF rfl hg_3 rfl) ?_
        exact go_meet hk3 (congrArg (fun b => some (D.bool b)) (some_eq hp_3)) ⟨rfl, rfl, trivial⟩
      refine go_nil ?_
      refine g_cond rfl (fun hc2 => ?_) (fun hc2 => ?_)
      · replace hj1 := cond_t hc2 hj1
        refine g_skip ?_
        refine g_block ?_
        refine g_region ?_
        refine go_p rfl rfl rfl (o_move rfl) ?_
        obtain ⟨hg7, hj1⟩ := grd_some hj1
        refine go_p rfl rfl rfl (o_add rfl rfl (i64_id hg7)) ?_
        refine go_p rfl rfl rfl (o_assign rfl) ?_
        refine go_nil ?_
        exact ⟨_, (), hj1, ⟨rfl, trivial⟩, ⟨rfl, trivial⟩, [], rfl⟩
      · replace hj1 := cond_f hc2 hj1
        refine g_exit ?_
        exact ⟨_, (), some_eq hj1, ⟨rfl, trivial⟩, trivial, [], rfl⟩
    · rintro n1 _ hst
      subst hst
      refine k_norm (L' := [(3, .i64 n1)]) (ms' := []) rfl rfl ?_
      refine g_seq ?_
      refine g_region ?_
      refine go_p rfl rfl rfl (o_move rfl) ?_
      refine go_p rfl rfl rfl (o_assign rfl) ?_
      refine go_nil ?_
      refine g_ret ?_
      exact retK (ret_one' rfl (ret_tmp rfl) (perm_drop _)) (congrArg (fun (p : Int) => (.i64 p : D)) (some_eq hm1))
def m_slices_Index_string_string_l1 (s1 : (List (List UInt8))) (v1 : (List UInt8)) : Nat → Int → Option (Out Int Unit)
  | 0, _ => none
  | n + 1, x1 =>
    bif (decide (x1 < (s1.length : Int))) then
      (idx s1 x1).bind fun x2 =>
      bif (decide ((v1 : List UInt8) = x2)) then
        some (Out.ret x1)
      else
        grd (InR (x1 + 1)) <|
        m_slices_Index_string_string_l1 s1 v1 n (x1 + 1)
    else
      some (Out.go (()))
def m_slices_Index_string_string (s1 : (List (List UInt8))) (v1 : (List UInt8)) : Option Int :=
  ((m_slices_Index_string_string_l1 s1 v1 FU 0 : Option (Out Int Unit))).bind (fun oo => oo.on (fun r1 => some r1) (fun _ =>
  some (-1)))
theorem w_slices_Index_string_string {s1 : (List (List UInt8))} {v1 : (List UInt8)} {r_1 : Int} (hm : m_slices_Index_string_string s1 v1 = some r_1) : Fn0 Try.prog 119 [.list 1 D.str s1, .str v1] (.i64 r_1) := by
  unfold m_slices_Index_string_string at hm
  refine fn_intro Try.func119 rfl Try.ntmps119 rfl fun H0 fr w0 => ?_
  refine g_seq ?_
  refine g_region ?_
  refine go_p rfl rfl rfl (o_assign rfl) ?_
  refine go_nil ?_
  refine g_seq ?_
  refine g_seq ?_
  refine g_region ?_
  refine go_p rfl rfl rfl (o_move rfl) ?_
  refine go_p rfl rfl rfl (o_len Try.runUnderlying62 rfl) ?_
  refine go_p rfl rfl rfl (o_move rfl) ?_
  refine go_nil ?_
  obtain ⟨o_1, hj1, hm1⟩ := bind_some hm
  refine g_cut_m [] [] (fun (st : Unit) (hid : Unit) => match st, hid with | _, _ => []) (fun F (st : Unit) (hid : Unit) => match st, hid with | _, _ => []) (fun st => Out.go (st) = o_1) trivial trivial ?_ ?_
  · skip
    refine g_block ?_
    refine g_loop_m [(0, _), (1, _), (7, _)] [] (fun (st : Int) (hid : Unit) => match st, hid with | x1, _ => [(8, .i64 x1)]) (fun F (st : Int) (hid : Unit) => match st, hid with | x1, _ => []) () hj1 (fun _ => rfl) ⟨rfl, rfl, rfl, trivial⟩ trivial ⟨rfl, trivial⟩ rfl ?_
    rintro n x1 _ hj1
    rw [m_slices_Index_string_string_l1] at hj1
    refine g_norm (L' := [(8, .i64 x1), (0, _), (1, _), (7, _)]) (ms' := []) rfl rfl ?_
    refine g_seq ?_
    refine g_region ?_
    refine go_p rfl rfl rfl (o_cmp rfl rfl rfl) ?_
    refine go_nil ?_
    refine g_seq ?_
    refine g_cond rfl (fun hc1 => ?_) (fun hc1 => ?_)
    · replace hj1 := cond_t hc1 hj1
      refine g_skip ?_
      refine g_seq ?_
      refine g_block ?_
      refine g_seq ?_
      refine g_region ?_
      refine go_p rfl rfl rfl (o_move rfl) ?_
      refine go_p rfl rfl rfl (o_assign rfl) ?_
      refine go_nil ?_
      refine g_seq ?_
      refine g_region ?_
      refine go_p rfl rfl rfl (o_move rfl) ?_
      refine go_p rfl rfl rfl (o_move rfl) ?_
      refine go_p rfl rfl rfl (o_move rfl) ?_
      obtain ⟨x2, hx1, hj1⟩ := bind_some hj1
      refine go_p rfl rfl rfl (o_indexAddr_m Try.runUnderlying62 Try.sizeOf9 rfl rfl hx1) ?_
      refine go_p rfl rfl rfl (o_load Try.isAgg9 rfl rfl) ?_
      refine go_p rfl rfl rfl (o_cmps rfl rfl rfl) ?_
      refine go_nil ?_
      refine g_cond rfl (fun hc2 => ?_) (fun hc2 => ?_)
      · replace hj1 := cond_t hc2 hj1
        refine g_seq ?_
        refine g_region ?_
        refine go_p rfl rfl rfl (o_move rfl) ?_
        refine go_p rfl rfl rfl (o_assign rfl) ?_
        refine go_nil ?_
        refine g_ret ?_
        obtain rfl := some_eq hj1
        replace hm1 := on_ret hm1
        exact retK (ret_one' rfl (ret_tmp rfl) (perm_drop _)) (congrArg (fun (p : Int) => (.i64 p : D)) (some_eq hm1))
      · replace hj1 := cond_f hc2 hj1
        refine g_skip ?_
        refine g_region ?_
        obtain ⟨hg2, hj1⟩ := grd_some hj1
        refine go_p rfl rfl rfl (o_add rfl rfl (i64_id hg2)) ?_
        refine go_p rfl rfl rfl (o_move rfl) ?_
        refine go_nil ?_
        exact ⟨_, (), hj1, ⟨rfl, trivial⟩, ⟨rfl, rfl, rfl, trivial⟩, [], rfl⟩
    · replace hj1 := cond_f hc1 hj1
      refine g_exit ?_
      exact ⟨_, (), some_eq hj1, trivial, trivial, [], rfl⟩
  · rintro _ _ hst
    subst hst
    replace hm1 := on_go hm1
    refine k_norm (L' := []) (ms' := []) rfl rfl ?_
    refine g_seq ?_
    refine g_region ?_
    refine go_p rfl rfl rfl (o_assign rfl) ?_
    refine go_nil ?_
    refine g_ret ?_
    exact retK (ret_one' rfl (ret_tmp rfl) (perm_drop _)) (congrArg (fun (p : Int) => (.i64 p : D)) (some_eq hm1))
def m_slices_Contains_string_string (s1 : (List (List UInt8))) (v1 : (List UInt8)) : Option Bool :=
  (m_slices_Index_string_string s1 v1).bind fun x1 =>
  some (decide (0 ≤ x1))
theorem w_slices_Contains_string_string {s1 : (List (List UInt8))} {v1 : (List UInt8)} {r_1 : Bool} (hm : m_slices_Contains_string_string s1 v1 = some r_1) : Fn0 Try.prog 85 [.list 1 D.str s1, .str v1] (.bool r_1) := by
  unfold m_slices_Contains_string_string at hm
  refine fn_intro Try.func85 rfl Try.ntmps85 rfl fun H0 fr w0 => ?_
  refine g_seq ?_
  refine g_region ?_
  refine go_p rfl rfl rfl (o_assign rfl) ?_
  refine go_nil ?_
  refine g_seq ?_
  refine g_region ?_
  refine go_p rfl rfl rfl (o_move rfl) ?_
  refine go_p rfl rfl rfl (o_move rfl) ?_
  obtain ⟨x1, hx1, hm⟩ := bind_some hm
  refine go_p rfl rfl rfl (o_call0 Try.call119 rfl (w_slices_Index_string_string hx1)) ?_
  refine go_p rfl rfl rfl (o_cmp rfl rfl rfl) ?_
  refine go_p rfl rfl rfl (o_assign rfl) ?_
  refine go_nil ?_
  refine g_ret ?_
  exact retK (ret_one' rfl (ret_tmp rfl) (perm_drop _)) (congrArg (fun (p : Bool) => (.bool p : D)) (some_eq hm))
def m_name_Keywords  : Option (List (List UInt8)) :=
  some [([102, 117, 110] : List UInt8), ([108, 101, 116] : List UInt8), ([114, 101, 99] : List UInt8), ([105, 110] : List UInt8), ([105, 102] : List UInt8), ([116, 104, 101, 110] : List UInt8), ([101, 108, 115, 101] : List UInt8), ([99, 97, 115, 101] : List UInt8), ([111, 102] : List UInt8), ([101, 110, 100] : List UInt8), ([116, 114, 117, 101] : List UInt8), ([102, 97, 108, 115, 101] : List UInt8), ([99, 104, 101, 99, 107] : List UInt8), ([97, 115, 107] : List UInt8), ([116, 111, 112] : List UInt8), ([98, 111, 116] : List UInt8), ([105, 110, 116] : List UInt8), ([98, 111, 111, 108] : List UInt8), ([115, 116, 114, 105, 110, 103] : List UInt8), ([109, 117] : List UInt8)]
theorem w_name_Keywords  {r_1 : (List (List UInt8))} (hm : m_name_Keywords = some r_1) : Fn0 Try.prog 150 [] (.list 1 D.str r_1) := by
  unfold m_name_Keywords at hm
  refine fn_intro Try.func150 rfl Try.ntmps150 rfl fun H0 fr w0 => ?_
  refine g_seq ?_
  refine g_region ?_
  refine go_p rfl rfl rfl (o_assign rfl) ?_
  refine go_conv (nilE (i := 0) (sz := 1) (f := D.str) rfl).refines ?_
  refine go_nil ?_
  refine g_seq ?_
  refine g_region ?_
  refine go_p rfl rfl rfl (o_buildSlice (xs := [_, _, _, _, _, _, _, _, _, _, _, _, _, _, _, _, _, _, _, _]) (f := D.str) (l := [_, _, _, _, _, _, _, _, _, _, _, _, _, _, _, _, _, _, _, _]) Try.runUnderlying62 Try.sizeOf9 Try.zeroValue9 rfl rfl rfl (fun _ => ⟨rfl, rfl, rfl⟩) rfl) ?_
  refine go_p rfl rfl rfl (o_assign rfl) ?_
  refine go_nil ?_
  refine g_ret ?_
  exact retK (ret_one' rfl (ret_tmp rfl) (perm_drop _)) (congrArg (fun (p : (List (List UInt8))) => (.list 1 D.str p : D)) (some_eq hm))
def m_name_Keyword (s1 : (List UInt8)) : Option Bool :=
  (m_name_Keywords).bind fun x1 =>
  (m_slices_Contains_string_string x1 s1).bind fun x2 =>
  some x2
theorem w_name_Keyword {s1 : (List UInt8)} {r_1 : Bool} (hm : m_name_Keyword s1 = some r_1) : Fn0 Try.prog 126 [.str s1] (.bool r_1) := by
  unfold m_name_Keyword at hm
  refine fn_intro Try.func126 rfl Try.ntmps126 rfl fun H0 fr w0 => ?_
  refine g_seq ?_
  refine g_region ?_
  refine go_p rfl rfl rfl (o_assign rfl) ?_
  refine go_nil ?_
  refine g_seq ?_
  refine g_region ?_
  obtain ⟨x1, hx1, hm⟩ := bind_some hm
  refine go_p rfl rfl rfl (o_call0 Try.call150 rfl (w_name_Keywords hx1)) ?_
  refine go_p rfl rfl rfl (o_move rfl) ?_
  obtain ⟨x2, hx2, hm⟩ := bind_some hm
  refine go_p rfl rfl rfl (o_call0 Try.call85 rfl (w_slices_Contains_string_string hx2)) ?_
  refine go_p rfl rfl rfl (o_assign rfl) ?_
  refine go_nil ?_
  refine g_ret ?_
  exact retK (ret_one' rfl (ret_tmp rfl) (perm_drop _)) (congrArg (fun (p : Bool) => (.bool p : D)) (some_eq hm))
theorem pl_88 : ∀ fs, (∀ w, (underlying 88).run Try.prog w = .ok (.struct fs) w) → placesOf Try.prog fs [(0, 4), (4, 1), (5, 1)] := by
  intro fs h w
  have := (h w).symm.trans (Try.runUnderlying88 w)
  simp only [Result.ok.injEq, TypeDesc.struct.injEq, and_true] at this
  subst this
  simp [Try.sizeOf24, Try.sizeOf28, Try.sizeOf3, Sem.run]
structure ApiToken where
  kind : Int
  s : (List UInt8)
  n_ : Int
  pos : Int
def ApiToken.d (x : ApiToken) : D := .agg [.i64 x.kind, .str x.s, .i64 x.n_, .i64 x.pos]
structure LexFound where
  t : ApiToken
  n_ : Int
  e_ : Int
def LexFound.d (x : LexFound) : D := .agg [.i64 x.t.kind, .str x.t.s, .i64 x.t.n_, .i64 x.t.pos, .i64 x.n_, .i64 x.e_]
theorem pl_28 : ∀ fs, (∀ w, (underlying 28).run Try.prog w = .ok (.struct fs) w) → placesOf Try.prog fs [(0, 1), (1, 1), (2, 1), (3, 1)] := by
  intro fs h w
  have := (h w).symm.trans (Try.runUnderlying28 w)
  simp only [Result.ok.injEq, TypeDesc.struct.injEq, and_true] at this
  subst this
  simp [Try.sizeOf2, Try.sizeOf3, Try.sizeOf9, Sem.run]
def m_lex_word (s1 : (List UInt8)) (n1 : Int) : Option LexFound :=
  (sli s1 0 n1).bind fun s2 =>
  bif (decide (20 < n1)) then
    some (⟨(⟨0, ([] : List UInt8), 0, 0⟩ : ApiToken), 0, 7⟩ : LexFound)
  else
    (m_name_Keyword s2).bind fun x1 =>
    bif x1 then
      some (⟨(⟨1, s2, 0, 0⟩ : ApiToken), n1, 0⟩ : LexFound)
    else
      (idx s2 0).bind fun c1 =>
      (bif (decide (65 ≤ (c1.toNat : Int))) then ((idx s2 0).bind fun c2 =>
      some (decide ((c2.toNat : Int) ≤ 90))) else (some false)).bind fun p1 =>
      bif p1 then
        some (⟨(⟨3, s2, 0, 0⟩ : ApiToken), n1, 0⟩ : LexFound)
      else
        some (⟨(⟨2, s2, 0, 0⟩ : ApiToken), n1, 0⟩ : LexFound)
theorem w_lex_word {s1 : (List UInt8)} {n1 : Int} {r_1 : LexFound} (hm : m_lex_word s1 n1 = some r_1) : Fn0 Try.prog 136 [.str s1, .i64 n1] (LexFound.d r_1) := by
  unfold m_lex_word at hm
  refine fn_intro Try.func136 rfl Try.ntmps136 rfl fun H0 fr w0 => ?_
  refine g_seq ?_
  refine g_region ?_
  refine go_op rfl rfl rfl (o_alloc_own Try.zeroValue88 (cs := [.i64 0, .str ([] : List UInt8), .i64 0, .i64 0, .i64 0, .i64 0]) rfl) ?_
  rintro _ _ ⟨b1, rfl, rfl⟩
  refine go_nil ?_
  refine g_seq ?_
  refine g_region ?_
  refine go_p rfl rfl rfl (o_move rfl) ?_
  refine go_p rfl rfl rfl (o_move rfl) ?_
  obtain ⟨s2, hx1, hm⟩ := bind_some hm
  refine go_p rfl rfl rfl (o_slice_str_m Try.runUnderlying9 rfl rfl ⟨_, rfl⟩ hx1) ?_
  refine go_p rfl rfl rfl (o_assign rfl) ?_
  refine go_nil ?_
  refine g_seq ?_
  refine g_block ?_
  refine g_seq ?_
  refine g_region ?_
  refine go_p rfl rfl rfl (o_move rfl) ?_
  refine go_p rfl rfl rfl (o_cmp rfl rfl rfl) ?_
  refine go_p rfl rfl rfl (o_assign rfl) ?_
  refine go_nil ?_
  refine g_cond rfl (fun hc1 => ?_) (fun hc1 => ?_)
  · replace hm := cond_t hc1 hm
    refine g_seq ?_
    refine g_region ?_
    refine go_p rfl rfl rfl (o_build (zs := [.v (.int .i64 0), .str [], .v (.int .i64 0), .v (.int .i64 0), .v (.int .i64 0), .v (.int .i64 0)]) Try.runUnderlying88 Try.zeroValue88 (pl_88 _ Try.runUnderlying88) rfl rfl rfl rfl) ?_
    refine go_u rfl rfl (o_store_box 0 Try.sizeOf88 rfl rfl rfl rfl rfl rfl rfl rfl (Nat.le_of_ble_eq_true rfl)) ?_
    rintro _ _ rfl
    refine go_ms (ms' := [box b1 88 [_, _, _, _, _, _]]) rfl ?_
    refine go_nil ?_
    refine g_ret ?_
    exact retK (ret_one' rfl (ret_cell 0 rfl rfl rfl Try.isAgg88 Try.sizeOf88 rfl) (perm_drop _)) (congrArg (fun (p : LexFound) => (LexFound.d p : D)) (some_eq hm))
  · replace hm := cond_f hc1 hm
    refine g_seq ?_
    refine g_region ?_
    refine go_p rfl rfl rfl (o_move rfl) ?_
    obtain ⟨x1, hx2, hm⟩ := bind_some hm
    refine go_p rfl rfl rfl (o_call0 Try.call126 rfl (w_name_Keyword hx2)) ?_
    refine go_p rfl rfl rfl (o_assign rfl) ?_
    refine go_nil ?_
    refine g_cond rfl (fun hc2 => ?_) (fun hc2 => ?_)
    · replace hm := cond_t hc2 hm
      refine g_seq ?_
      refine g_region ?_
      refine go_p rfl rfl rfl (o_move rfl) ?_
      refine go_p rfl rfl rfl (o_build (zs := [.v (.int .i64 0), .str [], .v (.int .i64 0), .v (.int .i64 0)]) Try.runUnderlying28 Try.zeroValue28 (pl_28 _ Try.runUnderlying28) rfl rfl rfl rfl) ?_
      refine go_p rfl rfl rfl (o_move rfl) ?_
      refine go_p rfl rfl rfl (o_build (zs := [.v (.int .i64 0), .str [], .v (.int .i64 0), .v (.int .i64 0), .v (.int .i64 0), .v (.int .i64 0)]) Try.runUnderlying88 Try.zeroValue88 (pl_88 _ Try.runUnderlying88) rfl rfl rfl rfl) ?_
      refine go_u rfl rfl (o_store_box 0 Try.sizeOf88 rfl rfl rfl rfl rfl rfl rfl rfl (Nat.le_of_ble_eq_true rfl)) ?_
      rintro _ _ rfl
      refine go_ms (ms' := [box b1 88 [_, _, _, _, _, _]]) rfl ?_
      refine go_nil ?_
      refine g_ret ?_
      exact retK (ret_one' rfl (ret_cell 0 rfl rfl rfl Try.isAgg88 Try.sizeOf88 rfl) (perm_drop _)) (congrArg (fun (p : LexFound) => (LexFound.d p : D)) (some_eq hm))
    · replace hm := cond_f hc2 hm
      refine g_seq ?_
      refine g_region ?_
      refine go_p rfl rfl rfl (o_move rfl) ?_
      obtain ⟨c1, hx3, hm⟩ := bind_some hm
      refine go_p rfl rfl rfl (o_index_m Try.runUnderlying9 rfl rfl hx3) ?_
      refine go_p rfl rfl rfl (o_cmp rfl rfl rfl) ?_
      refine go_p rfl rfl rfl (o_move rfl) ?_
      obtain ⟨p1, hp_1, hm⟩ := bind_some hm
      refine go_two [(1, _), (4, _), (5, _)] 4 28 p1 (t := 24) ⟨rfl, rfl, rfl, trivial⟩ rfl (fun hg_1 hk1 => ?_) (fun hg_1 hk1 => ?_) ?_
      · replace hp_1 := cond_t hg_1 hp_1
        refine go_wantp rfl rfl rfl hg_1 rfl rfl (o_move rfl) ?_
        obtain ⟨c2, hx4, hp_1⟩ := bind_some hp_1
        refine go_wantp rfl rfl rfl hg_1 rfl rfl (o_index_m Try.runUnderlying9 rfl rfl hx4) ?_
        refine go_wantp rfl rfl rfl hg_1 rfl rfl (o_cmp rfl rfl rfl) ?_
        refine go_p rfl rfl rfl (o_pickT rfl hg_1 rfl) ?_
        exact go_meet hk1 (congrArg (fun b => some (D.bool b)) (some_eq hp_1)) ⟨rfl, rfl, rfl, trivial⟩
      · replace hp_1 := cond_f hg_1 hp_1
        refine go_skip rfl rfl rfl hg_1 rfl rfl ?_
        refine go_skip rfl rfl rfl hg_1 rfl rfl ?_
        refine go_skip rfl rfl rfl hg_1 rfl rfl ?_
        refine go_p rfl rfl rfl (o_pickF rfl hg_1 rfl) ?_
        exact go_meet hk1 (congrArg (fun b => some (D.bool b)) (some_eq hp_1)) ⟨rfl, rfl, rfl, trivial⟩
      refine go_p rfl rfl rfl (o_assign rfl) ?_
      refine go_nil ?_
      refine g_cond rfl (fun hc3 => ?_) (fun hc3 => ?_)
      · replace hm := cond_t hc3 hm
        refine g_seq ?_
        refine g_region ?_
        refine go_p rfl rfl rfl (o_move rfl) ?_
        refine go_p rfl rfl rfl (o_build (zs := [.v (.int .i64 0), .str [], .v (.int .i64 0), .v (.int .i64 0)]) Try.runUnderlying28 Try.zeroValue28 (pl_28 _ Try.runUnderlying28) rfl rfl rfl rfl) ?_
        refine go_p rfl rfl rfl (o_move rfl) ?_
        refine go_p rfl rfl rfl (o_build (zs := [.v (.int .i64 0), .str [], .v (.int .i64 0), .v (.int .i64 0), .v (.int .i64 0), .v (.int .i64 0)]) Try.runUnderlying88 Try.zeroValue88 (pl_88 _ Try.runUnderlying88) rfl rfl rfl rfl) ?_
        refine go_u rfl rfl (o_store_box 0 Try.sizeOf88 rfl rfl rfl rfl rfl rfl rfl rfl (Nat.le_of_ble_eq_true rfl)) ?_
        rintro _ _ rfl
        refine go_ms (ms' := [box b1 88 [_, _, _, _, _, _]]) rfl ?_
        refine go_nil ?_
        refine g_ret ?_
        exact retK (ret_one' rfl (ret_cell 0 rfl rfl rfl Try.isAgg88 Try.sizeOf88 rfl) (perm_drop _)) (congrArg (fun (p : LexFound) => (LexFound.d p : D)) (some_eq hm))
      · replace hm := cond_f hc3 hm
        refine g_skip ?_
        refine g_seq ?_
        refine g_region ?_
        refine go_p rfl rfl rfl (o_move rfl) ?_
        refine go_p rfl rfl rfl (o_build (zs := [.v (.int .i64 0), .str [], .v (.int .i64 0), .v (.int .i64 0)]) Try.runUnderlying28 Try.zeroValue28 (pl_28 _ Try.runUnderlying28) rfl rfl rfl rfl) ?_
        refine go_p rfl rfl rfl (o_move rfl) ?_
        refine go_p rfl rfl rfl (o_build (zs := [.v (.int .i64 0), .str [], .v (.int .i64 0), .v (.int .i64 0), .v (.int .i64 0), .v (.int .i64 0)]) Try.runUnderlying88 Try.zeroValue88 (pl_88 _ Try.runUnderlying88) rfl rfl rfl rfl) ?_
        refine go_u rfl rfl (o_store_box 0 Try.sizeOf88 rfl rfl rfl rfl rfl rfl rfl rfl (Nat.le_of_ble_eq_true rfl)) ?_
        rintro _ _ rfl
        refine go_ms (ms' := [box b1 88 [_, _, _, _, _, _]]) rfl ?_
        refine go_nil ?_
        refine g_ret ?_
        exact retK (ret_one' rfl (ret_cell 0 rfl rfl rfl Try.isAgg88 Try.sizeOf88 rfl) (perm_drop _)) (congrArg (fun (p : LexFound) => (LexFound.d p : D)) (some_eq hm))
def m_lex_variable (s1 : (List UInt8)) : Option LexFound :=
  (sli s1 1 (s1.length : Int)).bind fun s2 =>
  (m_name_Word s2).bind fun x1 =>
  (bif (decide (x1 = 0)) then (some true) else ((idx s1 1).bind fun c1 =>
  (bif (decide (65 ≤ (c1.toNat : Int))) then ((idx s1 1).bind fun c2 =>
  some (decide ((c2.toNat : Int) ≤ 90))) else (some false)).bind fun p2 =>
  some p2)).bind fun p1 =>
  bif p1 then
    some (⟨(⟨0, ([] : List UInt8), 0, 0⟩ : ApiToken), 0, 5⟩ : LexFound)
  else
    bif (decide (20 < x1)) then
      some (⟨(⟨0, ([] : List UInt8), 0, 0⟩ : ApiToken), 0, 7⟩ : LexFound)
    else
      grd (InR (x1 + 1)) <|
      (sli s1 1 (x1 + 1)).bind fun s3 =>
      grd (InR (x1 + 1)) <|
      some (⟨(⟨6, s3, 0, 0⟩ : ApiToken), (x1 + 1), 0⟩ : LexFound)
theorem w_lex_variable {s1 : (List UInt8)} {r_1 : LexFound} (hm : m_lex_variable s1 = some r_1) : Fn0 Try.prog 137 [.str s1] (LexFound.d r_1) := by
  unfold m_lex_variable at hm
  refine fn_intro Try.func137 rfl Try.ntmps137 rfl fun H0 fr w0 => ?_
  refine g_seq ?_
  refine g_region ?_
  refine go_op rfl rfl rfl (o_alloc_own Try.zeroValue88 (cs := [.i64 0, .str ([] : List UInt8), .i64 0, .i64 0, .i64 0, .i64 0]) rfl) ?_
  rintro _ _ ⟨b1, rfl, rfl⟩
  refine go_nil ?_
  refine g_seq ?_
  refine g_region ?_
  refine go_p rfl rfl rfl (o_move rfl) ?_
  obtain ⟨s2, hx1, hm⟩ := bind_some hm
  refine go_p rfl rfl rfl (o_slice_str_m Try.runUnderlying9 rfl ⟨_, rfl⟩ rfl hx1) ?_
  obtain ⟨x1, hx2, hm⟩ := bind_some hm
  refine go_p rfl rfl rfl (o_call0 Try.call135 rfl (w_name_Word hx2)) ?_
  refine go_p rfl rfl rfl (o_assign rfl) ?_
  refine go_nil ?_
  refine g_seq ?_
  refine g_block ?_
  refine g_seq ?_
  refine g_region ?_
  refine go_p rfl rfl rfl (o_move rfl) ?_
  refine go_p rfl rfl rfl (o_cmp rfl rfl rfl) ?_
  refine go_p rfl rfl rfl (o_move rfl) ?_
  obtain ⟨p1, hp_1, hm⟩ := bind_some hm
  refine go_two [(0, _), (2, _), (3, _)] 9 19 p1 (t := 10) ⟨rfl, rfl, rfl, trivial⟩ rfl (fun hg_1 hk1 => ?_) (fun hg_1 hk1 => ?_) ?_
  · replace hp_1 := cond_t hg_1 hp_1
    refine go_skip rfl rfl rfl hg_1 rfl rfl ?_
    refine go_skip rfl rfl rfl hg_1 rfl rfl ?_
    refine go_skip rfl rfl rfl hg_1 rfl rfl ?_
    refine go_skip rfl rfl rfl hg_1 rfl rfl ?_
    refine go_skipu rfl rfl rfl rfl rfl ?_
    refine go_skipu rfl rfl rfl rfl rfl ?_
    refine go_skipu rfl rfl rfl rfl rfl ?_
    refine go_skip rfl rfl rfl hg_1 rfl rfl ?_
    refine go_p rfl rfl rfl (o_pickT rfl hg_1 rfl) ?_
    exact go_meet hk1 (congrArg (fun b => some (D.bool b)) (some_eq hp_1)) ⟨rfl, rfl, rfl, trivial⟩
  · replace hp_1 := cond_f hg_1 hp_1
    refine go_wantp rfl rfl rfl hg_1 rfl rfl (o_move rfl) ?_
    obtain ⟨c1, hx3, hp_1⟩ := bind_some hp_1
    refine go_wantp rfl rfl rfl hg_1 rfl rfl (o_index_m Try.runUnderlying9 rfl rfl hx3) ?_
    refine go_wantp rfl rfl rfl hg_1 rfl rfl (o_cmp rfl rfl rfl) ?_
    refine go_wantp rfl rfl rfl hg_1 rfl rfl (o_move rfl) ?_
    obtain ⟨p2, hp_2, hp_1⟩ := bind_some hp_1
    refine go_two [(0, _), (2, _), (3, _), (10, _)] 4 18 p2 (t := 14) ⟨rfl, rfl, rfl, rfl, trivial⟩ rfl (fun hg_2 hk2 => ?_) (fun hg_2 hk2 => ?_) ?_
    · replace hp_2 := cond_t hg_2 hp_2
      refine go_wantp rfl rfl rfl hg_2 rfl rfl (o_move rfl) ?_
      obtain ⟨c2, hx4, hp_2⟩ := bind_some hp_2
      refine go_wantp rfl rfl rfl hg_2 rfl rfl (o_index_m Try.runUnderlying9 rfl rfl hx4) ?_
      refine go_wantp rfl rfl rfl hg_2 rfl rfl (o_cmp rfl rfl rfl) ?_
      refine go_wantp rfl rfl rfl hg_1 rfl rfl (o_pickT rfl hg_2 rfl) ?_
      exact go_meet hk2 (congrArg (fun b => some (D.bool b)) (some_eq hp_2)) ⟨rfl, rfl, rfl, rfl, trivial⟩
    · replace hp_2 := cond_f hg_2 hp_2
      refine go_skip rfl rfl rfl hg_2 rfl rfl ?_
      refine go_skip rfl rfl rfl hg_2 rfl rfl ?_
      refine go_skip rfl rfl rfl hg_2 rfl rfl ?_
      refine go_wantp rfl rfl rfl hg_1 rfl rfl (o_pickF rfl hg_2 rfl) ?_
      exact go_meet hk2 (congrArg (fun b => some (D.bool b)) (some_eq hp_2)) ⟨rfl, rfl, rfl, rfl, trivial⟩
    refine go_p rfl rfl rfl (o_pickF rfl hg_1 rfl) ?_
    exact go_meet hk1 (congrArg (fun b => some (D.bool b)) (some_eq hp_1)) ⟨rfl, rfl, rfl, trivial⟩
  refine go_p rfl rfl rfl (o_assign rfl) ?_
  refine go_nil ?_
  refine g_cond rfl (fun hc1 => ?_) (fun hc1 => ?_)
  · replace hm := cond_t hc1 hm
    refine g_seq ?_
    refine g_region ?_
    refine go_p rfl rfl rfl (o_build (zs := [.v (.int .i64 0), .str [], .v (.int .i64 0), .v (.int .i64 0), .v (.int .i64 0), .v (.int .i64 0)]) Try.runUnderlying88 Try.zeroValue88 (pl_88 _ Try.runUnderlying88) rfl rfl rfl rfl) ?_
    refine go_u rfl rfl (o_store_box 0 Try.sizeOf88 rfl rfl rfl rfl rfl rfl rfl rfl (Nat.le_of_ble_eq_true rfl)) ?_
    rintro _ _ rfl
    refine go_ms (ms' := [box b1 88 [_, _, _, _, _, _]]) rfl ?_
    refine go_nil ?_
    refine g_ret ?_
    exact retK (ret_one' rfl (ret_cell 0 rfl rfl rfl Try.isAgg88 Try.sizeOf88 rfl) (perm_drop _)) (congrArg (fun (p : LexFound) => (LexFound.d p : D)) (some_eq hm))
  · replace hm := cond_f hc1 hm
    refine g_seq ?_
    refine g_region ?_
    refine go_p rfl rfl rfl (o_move rfl) ?_
    refine go_p rfl rfl rfl (o_cmp rfl rfl rfl) ?_
    refine go_p rfl rfl rfl (o_assign rfl) ?_
    refine go_nil ?_
    refine g_cond rfl (fun hc2 => ?_) (fun hc2 => ?_)
    · replace hm := cond_t hc2 hm
      refine g_seq ?_
      refine g_region ?_
      refine go_p rfl rfl rfl (o_build (zs := [.v (.int .i64 0), .str [], .v (.int .i64 0), .v (.int .i64 0), .v (.int .i64 0), .v (.int .i64 0)]) Try.runUnderlying88 Try.zeroValue88 (pl_88 _ Try.runUnderlying88) rfl rfl rfl rfl) ?_
      refine go_u rfl rfl (o_store_box 0 Try.sizeOf88 rfl rfl rfl rfl rfl rfl rfl rfl (Nat.le_of_ble_eq_true rfl)) ?_
      rintro _ _ rfl
      refine go_ms (ms' := [box b1 88 [_, _, _, _, _, _]]) rfl ?_
      refine go_nil ?_
      refine g_ret ?_
      exact retK (ret_one' rfl (ret_cell 0 rfl rfl rfl Try.isAgg88 Try.sizeOf88 rfl) (perm_drop _)) (congrArg (fun (p : LexFound) => (LexFound.d p : D)) (some_eq hm))
    · replace hm := cond_f hc2 hm
      refine g_skip ?_
      refine g_seq ?_
      refine g_region ?_
      refine go_p rfl rfl rfl (o_move rfl) ?_
      refine go_p rfl rfl rfl (o_move rfl) ?_
      obtain ⟨hg5, hm⟩ := grd_some hm
      refine go_p rfl rfl rfl (o_add rfl rfl (i64_id hg5)) ?_
      obtain ⟨s3, hx6, hm⟩ := bind_some hm
      refine go_p rfl rfl rfl (o_slice_str_m Try.runUnderlying9 rfl ⟨_, rfl⟩ ⟨_, rfl⟩ hx6) ?_
      refine go_p rfl rfl rfl (o_build (zs := [.v (.int .i64 0), .str [], .v (.int .i64 0), .v (.int .i64 0)]) Try.runUnderlying28 Try.zeroValue28 (pl_28 _ Try.runUnderlying28) rfl rfl rfl rfl) ?_
      refine go_p rfl rfl rfl (o_move rfl) ?_
      obtain ⟨hg7, hm⟩ := grd_some hm
      refine go_p rfl rfl rfl (o_add rfl rfl (i64_id hg7)) ?_
      refine go_p rfl rfl rfl (o_build (zs := [.v (.int .i64 0), .str [], .v (.int .i64 0), .v (.int .i64 0), .v (.int .i64 0), .v (.int .i64 0)]) Try.runUnderlying88 Try.zeroValue88 (pl_88 _ Try.runUnderlying88) rfl rfl rfl rfl) ?_
      refine go_u rfl rfl (o_store_box 0 Try.sizeOf88 rfl rfl rfl rfl rfl rfl rfl rfl (Nat.le_of_ble_eq_true rfl)) ?_
      rintro _ _ rfl
      refine go_ms (ms' := [box b1 88 [_, _, _, _, _, _]]) rfl ?_
      refine go_nil ?_
      refine g_ret ?_
      exact retK (ret_one' rfl (ret_cell 0 rfl rfl rfl Try.isAgg88 Try.sizeOf88 rfl) (perm_drop _)) (congrArg (fun (p : LexFound) => (LexFound.d p : D)) (some_eq hm))
def m_lex_digit (c1 : UInt8) : Option Bool :=
  some ((decide (48 ≤ (c1.toNat : Int))) && (decide ((c1.toNat : Int) ≤ 57)))
theorem w_lex_digit {c1 : UInt8} {r_1 : Bool} (hm : m_lex_digit c1 = some r_1) : Fn0 Try.prog 138 [.u8 c1] (.bool r_1) := by
  unfold m_lex_digit at hm
  refine fn_intro Try.func138 rfl Try.ntmps138 rfl fun H0 fr w0 => ?_
  refine g_seq ?_
  refine g_region ?_
  refine go_p rfl rfl rfl (o_assign rfl) ?_
  refine go_nil ?_
  refine g_seq ?_
  refine g_region ?_
  refine go_p rfl rfl rfl (o_move rfl) ?_
  refine go_p rfl rfl rfl (o_cmp rfl rfl rfl) ?_
  refine go_p rfl rfl rfl (o_move rfl) ?_
  apply go_and [] 3 8 (t := 5) trivial rfl
  · intro hg_1 hk1
    refine go_wantp rfl rfl rfl hg_1 rfl rfl (o_move rfl) ?_
    refine go_wantp rfl rfl rfl hg_1 rfl rfl (o_cmp rfl rfl rfl) ?_
    refine go_p rfl rfl rfl (o_pickT rfl hg_1 rfl) ?_
    exact go_meet hk1 (rfl) trivial
  · intro hg_1 hk1
    refine go_skip rfl rfl rfl hg_1 rfl rfl ?_
    refine go_skip rfl rfl rfl hg_1 rfl rfl ?_
    refine go_p rfl rfl rfl (o_pickF rfl hg_1 rfl) ?_
    exact go_meet hk1 (rfl) trivial
  refine go_p rfl rfl rfl (o_assign rfl) ?_
  refine go_nil ?_
  refine g_ret ?_
  exact retK (ret_one' rfl (ret_tmp rfl) (perm_drop _)) (congrArg (fun (p : Bool) => (.bool p : D)) (some_eq hm))
def m_internal_stringslite_HasPrefix (s1 : (List UInt8)) (prefix1 : (List UInt8)) : Option Bool :=
  (bif (decide ((prefix1.length : Int) ≤ (s1.length : Int))) then ((sli s1 0 (prefix1.length : Int)).bind fun s2 =>
  some (decide ((s2 : List UInt8) = prefix1))) else (some false)).bind fun p1 =>
  some p1
theorem w_internal_stringslite_HasPrefix {s1 : (List UInt8)} {prefix1 : (List UInt8)} {r_1 : Bool} (hm : m_internal_stringslite_HasPrefix s1 prefix1 = some r_1) : Fn0 Try.prog 166 [.str s1, .str prefix1] (.bool r_1) := by
  unfold m_internal_stringslite_HasPrefix at hm
  refine fn_intro Try.func166 rfl Try.ntmps166 rfl fun H0 fr w0 => ?_
  refine g_seq ?_
  refine g_region ?_
  refine go_p rfl rfl rfl (o_assign rfl) ?_
  refine go_nil ?_
  refine g_seq ?_
  refine g_region ?_
  refine go_p rfl rfl rfl (o_move rfl) ?_
  refine go_p rfl rfl rfl (o_len_str Try.runUnderlying9 rfl) ?_
  refine go_p rfl rfl rfl (o_move rfl) ?_
  refine go_p rfl rfl rfl (o_len_str Try.runUnderlying9 rfl) ?_
  refine go_p rfl rfl rfl (o_cmp rfl rfl rfl) ?_
  refine go_p rfl rfl rfl (o_move rfl) ?_
  obtain ⟨p1, hp_1, hm⟩ := bind_some hm
  refine go_two [] 7 17 p1 (t := 10) trivial rfl (fun hg_1 hk1 => ?_) (fun hg_1 hk1 => ?_) ?_
  · replace hp_1 := cond_t hg_1 hp_1
    refine go_wantp rfl rfl rfl hg_1 rfl rfl (o_move rfl) ?_
    refine go_wantp rfl rfl rfl hg_1 rfl rfl (o_move rfl) ?_
    refine go_wantp rfl rfl rfl hg_1 rfl rfl (o_len_str Try.runUnderlying9 rfl) ?_
    obtain ⟨s2, hx1, hp_1⟩ := bind_some hp_1
    refine go_wantp rfl rfl rfl hg_1 rfl rfl (o_slice_str_m Try.runUnderlying9 rfl rfl ⟨_, rfl⟩ hx1) ?_
    refine go_wantp rfl rfl rfl hg_1 rfl rfl (o_move rfl) ?_
    refine go_wantp rfl rfl rfl hg_1 rfl rfl (o_cmps rfl rfl rfl) ?_
    refine go_p rfl rfl rfl (o_pickT rfl hg_1 rfl) ?_
    exact go_meet hk1 (congrArg (fun b => some (D.bool b)) (some_eq hp_1)) trivial
  · replace hp_1 := cond_f hg_1 hp_1
    refine go_skip rfl rfl rfl hg_1 rfl rfl ?_
    refine go_skip rfl rfl rfl hg_1 rfl rfl ?_
    refine go_skip rfl rfl rfl hg_1 rfl rfl ?_
    refine go_skip rfl rfl rfl hg_1 rfl rfl ?_
    refine go_skip rfl rfl rfl hg_1 rfl rfl ?_
    refine go_skip rfl rfl rfl hg_1 rfl rfl ?_
    refine go_p rfl rfl rfl (o_pickF rfl hg_1 rfl) ?_
    exact go_meet hk1 (congrArg (fun b => some (D.bool b)) (some_eq hp_1)) trivial
  refine go_p rfl rfl rfl (o_assign rfl) ?_
  refine go_nil ?_
  refine g_ret ?_
  exact retK (ret_one' rfl (ret_tmp rfl) (perm_drop _)) (congrArg (fun (p : Bool) => (.bool p : D)) (some_eq hm))
def m_internal_stringslite_CutPrefix (s1 : (List UInt8)) (prefix1 : (List UInt8)) : Option ((List UInt8) × Bool) :=
  (m_internal_stringslite_HasPrefix s1 prefix1).bind fun x1 =>
  bif (!x1) then
    some (s1, false)
  else
    (sli s1 (prefix1.length : Int) (s1.length : Int)).bind fun s2 =>
    some (s2, true)
theorem w_internal_stringslite_CutPrefix {s1 : (List UInt8)} {prefix1 : (List UInt8)} {r_1 : (List UInt8)} {r_2 : Bool} (hm : m_internal_stringslite_CutPrefix s1 prefix1 = some (r_1, r_2)) : Fn0 Try.prog 167 [.str s1, .str prefix1] (.tup [.str r_1, .bool r_2]) := by
  unfold m_internal_stringslite_CutPrefix at hm
  refine fn_intro Try.func167 rfl Try.ntmps167 rfl fun H0 fr w0 => ?_
  refine g_seq ?_
  refine g_region ?_
  refine go_p rfl rfl rfl (o_assign rfl) ?_
  refine go_p rfl rfl rfl (o_assign rfl) ?_
  refine go_nil ?_
  refine g_seq ?_
  refine g_seq ?_
  refine g_region ?_
  refine go_p rfl rfl rfl (o_move rfl) ?_
  refine go_p rfl rfl rfl (o_move rfl) ?_
  obtain ⟨x1, hx1, hm⟩ := bind_some hm
  refine go_p rfl rfl rfl (o_call0 Try.call166 rfl (w_internal_stringslite_HasPrefix hx1)) ?_
  refine go_p rfl rfl rfl (o_not rfl) ?_
  refine go_nil ?_
  refine g_cond rfl (fun hc1 => ?_) (fun hc1 => ?_)
  · replace hm := cond_t hc1 hm
    refine g_seq ?_
    refine g_region ?_
    refine go_p rfl rfl rfl (o_move rfl) ?_
    refine go_p rfl rfl rfl (o_assign rfl) ?_
    refine go_p rfl rfl rfl (o_assign rfl) ?_
    refine go_nil ?_
    refine g_ret ?_
    exact retK (ret_many (ds := [_, _]) rfl (by decide) ⟨ret_tmp rfl, ⟨ret_tmp rfl, rfl⟩⟩ (perm_drop _)) (congrArg (fun (p : ((List UInt8) × Bool)) => D.tup [.str p.1, .bool p.2]) (some_eq hm))
  · replace hm := cond_f hc1 hm
    refine g_skip ?_
    refine g_seq ?_
    refine g_region ?_
    refine go_p rfl rfl rfl (o_move rfl) ?_
    refine go_p rfl rfl rfl (o_move rfl) ?_
    refine go_p rfl rfl rfl (o_len_str Try.runUnderlying9 rfl) ?_
    obtain ⟨s2, hx2, hm⟩ := bind_some hm
    refine go_p rfl rfl rfl (o_slice_str_m Try.runUnderlying9 rfl ⟨_, rfl⟩ rfl hx2) ?_
    refine go_p rfl rfl rfl (o_assign rfl) ?_
    refine go_p rfl rfl rfl (o_assign rfl) ?_
    refine go_nil ?_
    refine g_ret ?_
    exact retK (ret_many (ds := [_, _]) rfl (by decide) ⟨ret_tmp rfl, ⟨ret_tmp rfl, rfl⟩⟩ (perm_drop _)) (congrArg (fun (p : ((List UInt8) × Bool)) => D.tup [.str p.1, .bool p.2]) (some_eq hm))
def m_strings_CutPrefix (s1 : (List UInt8)) (prefix1 : (List UInt8)) : Option ((List UInt8) × Bool) :=
  (m_internal_stringslite_CutPrefix s1 prefix1).bind fun (x1, x2) =>
  some (x1, x2)
theorem w_strings_CutPrefix {s1 : (List UInt8)} {prefix1 : (List UInt8)} {r_1 : (List UInt8)} {r_2 : Bool} (hm : m_strings_CutPrefix s1 prefix1 = some (r_1, r_2)) : Fn0 Try.prog 159 [.str s1, .str prefix1] (.tup [.str r_1, .bool r_2]) := by
  unfold m_strings_CutPrefix at hm
  refine fn_intro Try.func159 rfl Try.ntmps159 rfl fun H0 fr w0 => ?_
  refine g_seq ?_
  refine g_region ?_
  refine go_p rfl rfl rfl (o_assign rfl) ?_
  refine go_p rfl rfl rfl (o_assign rfl) ?_
  refine go_nil ?_
  refine g_seq ?_
  refine g_region ?_
  refine go_p rfl rfl rfl (o_move rfl) ?_
  refine go_p rfl rfl rfl (o_move rfl) ?_
  obtain ⟨⟨x1, x2⟩, hx1, hm⟩ := bind_some hm
  refine go_p rfl rfl rfl (o_call0 Try.call167 rfl (w_internal_stringslite_CutPrefix hx1)) ?_
  refine go_p rfl rfl rfl (o_extract rfl rfl) ?_
  refine go_p rfl rfl rfl (o_extract rfl rfl) ?_
  refine go_p rfl rfl rfl (o_assign rfl) ?_
  refine go_p rfl rfl rfl (o_assign rfl) ?_
  refine go_nil ?_
  refine g_ret ?_
  exact retK (ret_many (ds := [_, _]) rfl (by decide) ⟨ret_tmp rfl, ⟨ret_tmp rfl, rfl⟩⟩ (perm_drop _)) (congrArg (fun (p : ((List UInt8) × Bool)) => D.tup [.str p.1, .bool p.2]) (some_eq hm))
def m_wrap_digits_l1 (s1 : (List UInt8)) : Nat → (Int × Nat) → Option (Out (Int × Int) (Int × Nat))
  | 0, _ => none
  | n + 1, (n2, p4) =>
    bif (decide (p4 < s1.length)) then
      bif ((decide ((runeAt s1 p4) < 48)) || (decide (57 < (runeAt s1 p4)))) then
        some (Out.ret (0, 5))
      else
        grd (InR ((-9223372036854775808) + (IntKind.i64.wrap (IntKind.i32.wrap ((runeAt s1 p4) - 48))))) <|
        grd (InR (Int.tdiv ((-9223372036854775808) + (IntKind.i64.wrap (IntKind.i32.wrap ((runeAt s1 p4) - 48)))) 10)) <|
        bif (decide (n2 < (Int.tdiv ((-9223372036854775808) + (IntKind.i64.wrap (IntKind.i32.wrap ((runeAt s1 p4) - 48)))) 10))) then
          some (Out.ret (0, 5))
        else
          grd (InR (10 * n2)) <|
          grd (InR ((10 * n2) - (IntKind.i64.wrap (IntKind.i32.wrap ((runeAt s1 p4) - 48))))) <|
          m_wrap_digits_l1 s1 n (((10 * n2) - (IntKind.i64.wrap (IntKind.i32.wrap ((runeAt s1 p4) - 48)))), (nextPos s1 p4))
    else
      some (Out.go ((n2, (nextPos s1 p4))))
def m_wrap_digits (s1 : (List UInt8)) : Option (Int × Int) :=
  (bif (decide ((s1 : List UInt8) = ([] : List UInt8))) then (some true) else ((bif (decide (1 < (s1.length : Int))) then ((idx s1 0).bind fun c1 =>
  some (decide ((c1.toNat : Int) = 48))) else (some false)).bind fun p2 =>
  some p2)).bind fun p1 =>
  bif p1 then
    some (0, 5)
  else
    ((m_wrap_digits_l1 s1 FU (0, 0) : Option (Out (Int × Int) (Int × Nat)))).bind (fun oo => oo.on (fun r1 => some r1) (fun (n1, p3) =>
    some (n1, 0)))
theorem w_wrap_digits {s1 : (List UInt8)} {r_1 : Int} {r_2 : Int} (hm : m_wrap_digits s1 = some (r_1, r_2)) : Fn0 Try.prog 160 [.str s1] (.tup [.i64 r_1, .i64 r_2]) := by
  unfold m_wrap_digits at hm
  refine fn_intro Try.func160 rfl Try.ntmps160 rfl fun H0 fr w0 => ?_
  refine g_seq ?_
  refine g_region ?_
  refine go_p rfl rfl rfl (o_assign rfl) ?_
  refine go_p rfl rfl rfl (o_assign rfl) ?_
  refine go_nil ?_
  refine g_seq ?_
  refine g_seq ?_
  refine g_region ?_
  refine go_p rfl rfl rfl (o_move rfl) ?_
  refine go_p rfl rfl rfl (o_cmps rfl rfl rfl) ?_
  refine go_p rfl rfl rfl (o_move rfl) ?_
  obtain ⟨p1, hp_1, hm⟩ := bind_some hm
  refine go_two [(0, _)] 9 19 p1 (t := 10) ⟨rfl, trivial⟩ rfl (fun hg_1 hk1 => ?_) (fun hg_1 hk1 => ?_) ?_
  · replace hp_1 := cond_t hg_1 hp_1
    refine go_skip rfl rfl rfl hg_1 rfl rfl ?_
    refine go_skip rfl rfl rfl hg_1 rfl rfl ?_
    refine go_skip rfl rfl rfl hg_1 rfl rfl ?_
    refine go_skip rfl rfl rfl hg_1 rfl rfl ?_
    refine go_skipu rfl rfl rfl rfl rfl ?_
    refine go_skipu rfl rfl rfl rfl rfl ?_
    refine go_skipu rfl rfl rfl rfl rfl ?_
    refine go_skip rfl rfl rfl hg_1 rfl rfl ?_
    refine go_p rfl rfl rfl (o_pickT rfl hg_1 rfl) ?_
    exact go_meet hk1 (congrArg (fun b => some (D.bool b)) (some_eq hp_1)) ⟨rfl, trivial⟩
  · replace hp_1 := cond_f hg_1 hp_1
    refine go_wantp rfl rfl rfl hg_1 rfl rfl (o_move rfl) ?_
    refine go_wantp rfl rfl rfl hg_1 rfl rfl (o_len_str Try.runUnderlying9 rfl) ?_
    refine go_wantp rfl rfl rfl hg_1 rfl rfl (o_cmp rfl rfl rfl) ?_
    refine go_wantp rfl rfl rfl hg_1 rfl rfl (o_move rfl) ?_
    obtain ⟨p2, hp_2, hp_1⟩ := bind_some hp_1
    refine go_two [(0, _), (10, _)] 4 18 p2 (t := 14) ⟨rfl, rfl, trivial⟩ rfl (fun hg_2 hk2 => ?_) (fun hg_2 hk2 => ?_) ?_
    · replace hp_2 := cond_t hg_2 hp_2
      refine go_wantp rfl rfl rfl hg_2 rfl rfl (o_move rfl) ?_
      obtain ⟨c1, hx1, hp_2⟩ := bind_some hp_2
      refine go_wantp rfl rfl rfl hg_2 rfl rfl (o_index_m Try.runUnderlying9 rfl rfl hx1) ?_
      refine go_wantp rfl rfl rfl hg_2 rfl rfl (o_cmp rfl rfl rfl) ?_
      refine go_wantp rfl rfl rfl hg_1 rfl rfl (o_pickT rfl hg_2 rfl) ?_
      exact go_meet hk2 (congrArg (fun b => some (D.bool b)) (some_eq hp_2)) ⟨rfl, rfl, trivial⟩
    · replace hp_2 := cond_f hg_2 hp_2
      refine go_skip rfl rfl rfl hg_2 rfl rfl ?_
      refine go_skip rfl rfl rfl hg_2 rfl rfl ?_
      refine go_skip rfl rfl rfl hg_2 rfl rfl ?_
      refine go_wantp rfl rfl rfl hg_1 rfl rfl (o_pickF rfl hg_2 rfl) ?_
      exact go_meet hk2 (congrArg (fun b => some (D.bool b)) (some_eq hp_2)) ⟨rfl, rfl, trivial⟩
    refine go_p rfl rfl rfl (o_pickF rfl hg_1 rfl) ?_
    exact go_meet hk1 (congrArg (fun b => some (D.bool b)) (some_eq hp_1)) ⟨rfl, trivial⟩
  refine go_nil ?_
  refine g_cond rfl (fun hc1 => ?_) (fun hc1 => ?_)
  · replace hm := cond_t hc1 hm
    refine g_seq ?_
    refine g_region ?_
    refine go_p rfl rfl rfl (o_assign rfl) ?_
    refine go_p rfl rfl rfl (o_assign rfl) ?_
    refine go_nil ?_
    refine g_ret ?_
    exact retK (ret_many (ds := [_, _]) rfl (by decide) ⟨ret_tmp rfl, ⟨ret_tmp rfl, rfl⟩⟩ (perm_drop _)) (congrArg (fun (p : (Int × Int)) => D.tup [.i64 p.1, .i64 p.2]) (some_eq hm))
  · replace hm := cond_f hc1 hm
    refine g_skip ?_
    refine g_seq ?_
    refine g_region ?_
    refine go_p rfl rfl rfl (o_assign rfl) ?_
    refine go_nil ?_
    refine g_seq ?_
    refine g_seq ?_
    refine g_region ?_
    refine go_p rfl rfl rfl (o_move rfl) ?_
    refine go_op rfl rfl rfl (o_range_str Try.underlying9 rfl) ?_
    rintro _ _ ⟨b1, rfl, rfl⟩
    refine go_nil ?_
    obtain ⟨o_1, hj1, hm1⟩ := bind_some hm
    refine g_cut_m [] [] (fun (st : (Int × Nat)) (hid : Unit) => match st, hid with | (n1, p3), _ => [(4, .i64 n1)]) (fun F (st : (Int × Nat)) (hid : Unit) => match st, hid with | (n1, p3), _ => [sit b1 s1 p3]) (fun st => Out.go (st) = o_1) trivial trivial ?_ ?_
    · skip
      refine g_block ?_
      refine g_loop_m [(21, _)] [] (fun (st : (Int × Nat)) (hid : Unit) => match st, hid with | (n2, p4), _ => [(4, .i64 n2)]) (fun F (st : (Int × Nat)) (hid : Unit) => match st, hid with | (n2, p4), _ => [sit b1 s1 p4]) () hj1 (fun _ => rfl) ⟨rfl, trivial⟩ trivial ⟨rfl, trivial⟩ rfl ?_
      rintro n ⟨n2, p4⟩ _ hj1
      rw [m_wrap_digits_l1] at hj1
      refine g_norm (L' := [(4, .i64 n2), (21, _)]) (ms' := [sit b1 s1 p4]) rfl rfl ?_
      refine g_seq ?_
      refine g_region ?_
      refine go_op rfl rfl rfl (o_next_str 0 rfl rfl) ?_
      rintro _ _ ⟨rfl, rfl⟩
      refine go_p rfl rfl rfl (o_next0 rfl) ?_
      refine go_nil ?_
      refine g_seq ?_
      refine g_cond rfl (fun hc2 => ?_) (fun hc2 => ?_)
      · replace hj1 := cond_t hc2 hj1
        refine g_skip ?_
        refine g_block ?_
        refine g_seq ?_
        refine g_region ?_
        refine go_p rfl rfl rfl (o_next2 rfl (by assumption)) ?_
        refine go_p rfl rfl rfl (o_assign rfl) ?_
        refine go_nil ?_
        refine g_seq ?_
        refine g_seq ?_
        refine g_region ?_
        refine go_p rfl rfl rfl (o_move rfl) ?_
        refine go_p rfl rfl rfl (o_cmp rfl rfl rfl) ?_
        refine go_p rfl rfl rfl (o_move rfl) ?_
        apply go_or [(4, _), (6, _), (21, _)] 3 30 (t := 27) ⟨rfl, rfl, rfl, trivial⟩ rfl
        · intro hg_3 hk3
          refine go_wantp rfl rfl rfl hg_3 rfl rfl (o_move rfl) ?_
          refine go_wantp rfl rfl rfl hg_3 rfl rfl (o_cmp rfl rfl rfl) ?_
          refine go_p rfl rfl rfl (o_pickF rfl hg_3 rfl) ?_
          exact go_meet hk3 (rfl) ⟨rfl, rfl, rfl, trivial⟩
        · intro hg_3 hk3
          refine go_skip rfl rfl rfl hg_3 rfl rfl ?_
          refine go_skip rfl rfl rfl hg_3 rfl rfl ?_
          refine go_p rfl rfl rfl (o_pickT rfl hg_3 rfl) ?_
          exact go_meet hk3 (rfl) ⟨rfl, rfl, rfl, trivial⟩
        refine go_nil ?_
        refine g_cond rfl (fun hc3 => ?_) (fun hc3 => ?_)
        · replace hj1 := cond_t hc3 hj1
          refine g_seq ?_
          refine g_region ?_
          refine go_p rfl rfl rfl (o_assign rfl) ?_
          refine go_p rfl rfl rfl (o_assign rfl) ?_
          refine go_nil ?_
          refine g_ret ?_
          obtain rfl := some_eq hj1
          replace hm1 := on_ret hm1
          exact retK (ret_many (ds := [_, _]) rfl (by decide) ⟨ret_tmp rfl, ⟨ret_tmp rfl, rfl⟩⟩ (perm_drop _)) (congrArg (fun (p : (Int × Int)) => D.tup [.i64 p.1, .i64 p.2]) (some_eq hm1))
        · replace hj1 := cond_f hc3 hj1
          refine g_skip ?_
          refine g_seq ?_
          refine g_region ?_
          refine go_p rfl rfl rfl (o_move rfl) ?_
          refine go_p rfl rfl rfl (o_sub rfl rfl rfl) ?_
          refine go_p rfl rfl rfl (o_conv Try.runUnderlying21 Try.runUnderlying2 rfl rfl) ?_
          refine go_p rfl rfl rfl (o_assign rfl) ?_
          refine go_nil ?_
          refine g_seq ?_
          refine g_seq ?_
          refine g_region ?_
          refine go_p rfl rfl rfl (o_move rfl) ?_
          refine go_p rfl rfl rfl (o_move rfl) ?_
          obtain ⟨hg2, hj1⟩ := grd_some hj1
          refine go_p rfl rfl rfl (o_add rfl rfl (i64_id hg2)) ?_
          obtain ⟨hg3, hj1⟩ := grd_some hj1
          refine go_p rfl rfl rfl (o_quo rfl rfl (by decide) (i64_id hg3)) ?_
          refine go_p rfl rfl rfl (o_cmp rfl rfl rfl) ?_
          refine go_nil ?_
          refine g_cond rfl (fun hc4 => ?_) (fun hc4 => ?_)
          · replace hj1 := cond_t hc4 hj1
            refine g_seq ?_
            refine g_region ?_
            refine go_p rfl rfl rfl (o_assign rfl) ?_
            refine go_p rfl rfl rfl (o_assign rfl) ?_
            refine go_nil ?_
            refine g_ret ?_
            obtain rfl := some_eq hj1
            replace hm1 := on_ret hm1
            exact retK (ret_many (ds := [_, _]) rfl (by decide) ⟨ret_tmp rfl, ⟨ret_tmp rfl, rfl⟩⟩ (perm_drop _)) (congrArg (fun (p : (Int × Int)) => D.tup [.i64 p.1, .i64 p.2]) (some_eq hm1))
          · replace hj1 := cond_f hc4 hj1
            refine g_skip ?_
            refine g_region ?_
            refine go_p rfl rfl rfl (o_move rfl) ?_
            obtain ⟨hg4, hj1⟩ := grd_some hj1
            refine go_p rfl rfl rfl (o_mul rfl rfl (i64_id hg4)) ?_
            refine go_p rfl rfl rfl (o_move rfl) ?_
            obtain ⟨hg5, hj1⟩ := grd_some hj1
            refine go_p rfl rfl rfl (o_sub rfl rfl (i64_id hg5)) ?_
            refine go_p rfl rfl rfl (o_assign rfl) ?_
            refine go_nil ?_
            exact ⟨_, (), hj1, ⟨rfl, trivial⟩, ⟨rfl, trivial⟩, [], rfl⟩
      · replace hj1 := cond_f hc2 hj1
        refine g_exit ?_
        exact ⟨_, (), some_eq hj1, ⟨rfl, trivial⟩, trivial, [], rfl⟩
    · rintro ⟨n1, p3⟩ _ hst
      subst hst
      replace hm1 := on_go hm1
      refine k_norm (L' := [(4, .i64 n1)]) (ms' := [sit b1 s1 p3]) rfl rfl ?_
      refine g_seq ?_
      refine g_region ?_
      refine go_p rfl rfl rfl (o_move rfl) ?_
      refine go_p rfl rfl rfl (o_assign rfl) ?_
      refine go_p rfl rfl rfl (o_assign rfl) ?_
      refine go_nil ?_
      refine g_ret ?_
      exact retK (ret_many (ds := [_, _]) rfl (by decide) ⟨ret_tmp rfl, ⟨ret_tmp rfl, rfl⟩⟩ (perm_drop _)) (congrArg (fun (p : (Int × Int)) => D.tup [.i64 p.1, .i64 p.2]) (some_eq hm1))
def m_wrap_Parse (s1 : (List UInt8)) : Option (Int × Int) :=
  (m_strings_CutPrefix s1 ([126] : List UInt8)).bind fun (x1, x2) =>
  (m_wrap_digits x1).bind fun (x3, x4) =>
  bif (!decide (x4 = 0)) then
    some (0, x4)
  else
    bif ((x2 && (decide (x3 = 0))) || ((!x2) && (decide (x3 = (-9223372036854775808))))) then
      some (0, 5)
    else
      bif x2 then
        some (x3, x4)
      else
        grd (InR (0 - x3)) <|
        some ((0 - x3), x4)
theorem w_wrap_Parse {s1 : (List UInt8)} {r_1 : Int} {r_2 : Int} (hm : m_wrap_Parse s1 = some (r_1, r_2)) : Fn0 Try.prog 155 [.str s1] (.tup [.i64 r_1, .i64 r_2]) := by
  unfold m_wrap_Parse at hm
  refine fn_intro Try.func155 rfl Try.ntmps155 rfl fun H0 fr w0 => ?_
  refine g_seq ?_
  refine g_region ?_
  refine go_p rfl rfl rfl (o_assign rfl) ?_
  refine go_p rfl rfl rfl (o_assign rfl) ?_
  refine go_nil ?_
  refine g_seq ?_
  refine g_region ?_
  refine go_p rfl rfl rfl (o_move rfl) ?_
  obtain ⟨⟨x1, x2⟩, hx1, hm⟩ := bind_some hm
  refine go_p rfl rfl rfl (o_call0 Try.call159 rfl (w_strings_CutPrefix hx1)) ?_
  refine go_p rfl rfl rfl (o_move rfl) ?_
  refine go_p rfl rfl rfl (o_extract rfl rfl) ?_
  refine go_p rfl rfl rfl (o_extract rfl rfl) ?_
  refine go_p rfl rfl rfl (o_assign rfl) ?_
  refine go_p rfl rfl rfl (o_assign rfl) ?_
  refine go_nil ?_
  refine g_seq ?_
  refine g_region ?_
  refine go_p rfl rfl rfl (o_move rfl) ?_
  obtain ⟨⟨x3, x4⟩, hx2, hm⟩ := bind_some hm
  refine go_p rfl rfl rfl (o_call0 Try.call160 rfl (w_wrap_digits hx2)) ?_
  refine go_p rfl rfl rfl (o_move rfl) ?_
  refine go_p rfl rfl rfl (o_extract rfl rfl) ?_
  refine go_p rfl rfl rfl (o_extract rfl rfl) ?_
  refine go_p rfl rfl rfl (o_assign rfl) ?_
  refine go_p rfl rfl rfl (o_assign rfl) ?_
  refine go_nil ?_
  refine g_seq ?_
  refine g_block ?_
  refine g_seq ?_
  refine g_region ?_
  refine go_p rfl rfl rfl (o_move rfl) ?_
  refine go_p rfl rfl rfl (o_cmp rfl rfl rfl) ?_
  refine go_p rfl rfl rfl (o_assign rfl) ?_
  refine go_nil ?_
  refine g_cond rfl (fun hc1 => ?_) (fun hc1 => ?_)
  · replace hm := cond_t hc1 hm
    refine g_seq ?_
    refine g_region ?_
    refine go_p rfl rfl rfl (o_move rfl) ?_
    refine go_p rfl rfl rfl (o_assign rfl) ?_
    refine go_p rfl rfl rfl (o_assign rfl) ?_
    refine go_nil ?_
    refine g_ret ?_
    exact retK (ret_many (ds := [_, _]) rfl (by decide) ⟨ret_tmp rfl, ⟨ret_tmp rfl, rfl⟩⟩ (perm_drop _)) (congrArg (fun (p : (Int × Int)) => D.tup [.i64 p.1, .i64 p.2]) (some_eq hm))
  · replace hm := cond_f hc1 hm
    refine g_seq ?_
    refine g_region ?_
    refine go_p rfl rfl rfl (o_move rfl) ?_
    refine go_p rfl rfl rfl (o_move rfl) ?_
    apply go_and [(5, _), (6, _), (7, _)] 3 27 (t := 24) ⟨rfl, rfl, rfl, trivial⟩ rfl
    · intro hg_1 hk1
      refine go_wantp rfl rfl rfl hg_1 rfl rfl (o_move rfl) ?_
      refine go_wantp rfl rfl rfl hg_1 rfl rfl (o_cmp rfl rfl rfl) ?_
      refine go_p rfl rfl rfl (o_pickT rfl hg_1 rfl) ?_
      exact go_meet hk1 (rfl) ⟨rfl, rfl, rfl, trivial⟩
    · intro hg_1 hk1
      refine go_skip rfl rfl rfl hg_1 rfl rfl ?_
      refine go_skip rfl rfl rfl hg_1 rfl rfl ?_
      refine go_p rfl rfl rfl (o_pickF rfl hg_1 rfl) ?_
      exact go_meet hk1 (rfl) ⟨rfl, rfl, rfl, trivial⟩
    refine go_p rfl rfl rfl (o_move rfl) ?_
    apply go_or [(5, _), (6, _), (7, _)] 7 35 (t := 28) ⟨rfl, rfl, rfl, trivial⟩ rfl
    · intro hg_2 hk2
      refine go_wantp rfl rfl rfl hg_2 rfl rfl (o_move rfl) ?_
      refine go_wantp rfl rfl rfl hg_2 rfl rfl (o_not rfl) ?_
      refine go_wantp rfl rfl rfl hg_2 rfl rfl (o_move rfl) ?_
      apply go_and [(5, _), (6, _), (7, _), (28, _)] 3 34 (t := 31) ⟨rfl, rfl, rfl, rfl, trivial⟩ rfl
      · intro hg_3 hk3
        refine go_wantp rfl rfl rfl hg_3 rfl rfl (o_move rfl) ?_
        refine go_wantp rfl rfl rfl hg_3 rfl rfl (o_cmp rfl rfl rfl) ?_
        refine go_wantp rfl rfl rfl hg_2 rfl rfl (o_pickT rfl hg_3 rfl) ?_
        exact go_meet hk3 (rfl) ⟨rfl, rfl, rfl, rfl, trivial⟩
      · intro hg_3 hk3
        refine go_skip rfl rfl rfl hg_3 rfl rfl ?_
        refine go_skip rfl rfl rfl hg_3 rfl rfl ?_
        refine go_wantp rfl rfl rfl hg_2 rfl rfl (o_pickF rfl hg_3 rfl) ?_
        exact go_meet hk3 (rfl) ⟨rfl, rfl, rfl, rfl, trivial⟩
      refine go_p rfl rfl rfl (o_pickF rfl hg_2 rfl) ?_
      exact go_meet hk2 (rfl) ⟨rfl, rfl, rfl, trivial⟩
    · intro hg_2 hk2
      refine go_skip rfl rfl rfl hg_2 rfl rfl ?_
      refine go_skip rfl rfl rfl hg_2 rfl rfl ?_
      refine go_skip rfl rfl rfl hg_2 rfl rfl ?_
      refine go_skipu rfl rfl rfl rfl rfl ?_
      refine go_skipu rfl rfl rfl rfl rfl ?_
      refine go_skip rfl rfl rfl hg_2 rfl rfl ?_
      refine go_p rfl rfl rfl (o_pickT rfl hg_2 rfl) ?_
      exact go_meet hk2 (rfl) ⟨rfl, rfl, rfl, trivial⟩
    refine go_p rfl rfl rfl (o_assign rfl) ?_
    refine go_nil ?_
    refine g_cond rfl (fun hc2 => ?_) (fun hc2 => ?_)
    · replace hm := cond_t hc2 hm
      refine g_seq ?_
      refine g_region ?_
      refine go_p rfl rfl rfl (o_assign rfl) ?_
      refine go_p rfl rfl rfl (o_assign rfl) ?_
      refine go_nil ?_
      refine g_ret ?_
      exact retK (ret_many (ds := [_, _]) rfl (by decide) ⟨ret_tmp rfl, ⟨ret_tmp rfl, rfl⟩⟩ (perm_drop _)) (congrArg (fun (p : (Int × Int)) => D.tup [.i64 p.1, .i64 p.2]) (some_eq hm))
    · replace hm := cond_f hc2 hm
      refine g_seq ?_
      refine g_region ?_
      refine go_p rfl rfl rfl (o_move rfl) ?_
      refine go_p rfl rfl rfl (o_assign rfl) ?_
      refine go_nil ?_
      refine g_cond rfl (fun hc3 => ?_) (fun hc3 => ?_)
      · replace hm := cond_t hc3 hm
        refine g_seq ?_
        refine g_region ?_
        refine go_p rfl rfl rfl (o_move rfl) ?_
        refine go_p rfl rfl rfl (o_move rfl) ?_
        refine go_p rfl rfl rfl (o_assign rfl) ?_
        refine go_p rfl rfl rfl (o_assign rfl) ?_
        refine go_nil ?_
        refine g_ret ?_
        exact retK (ret_many (ds := [_, _]) rfl (by decide) ⟨ret_tmp rfl, ⟨ret_tmp rfl, rfl⟩⟩ (perm_drop _)) (congrArg (fun (p : (Int × Int)) => D.tup [.i64 p.1, .i64 p.2]) (some_eq hm))
      · replace hm := cond_f hc3 hm
        refine g_skip ?_
        refine g_seq ?_
        refine g_region ?_
        refine go_p rfl rfl rfl (o_move rfl) ?_
        obtain ⟨hg3, hm⟩ := grd_some hm
        refine go_p rfl rfl rfl (o_neg rfl (i64_id hg3)) ?_
        refine go_p rfl rfl rfl (o_move rfl) ?_
        refine go_p rfl rfl rfl (o_assign rfl) ?_
        refine go_p rfl rfl rfl (o_assign rfl) ?_
        refine go_nil ?_
        refine g_ret ?_
        exact retK (ret_many (ds := [_, _]) rfl (by decide) ⟨ret_tmp rfl, ⟨ret_tmp rfl, rfl⟩⟩ (perm_drop _)) (congrArg (fun (p : (Int × Int)) => D.tup [.i64 p.1, .i64 p.2]) (some_eq hm))
def m_lex_number_l1 (s1 : (List UInt8)) : Nat → Int → Option Int
  | 0, _ => none
  | n + 1, n2 =>
    (bif (decide (n2 < (s1.length : Int))) then ((idx s1 n2).bind fun c1 =>
    (m_lex_digit c1).bind fun x1 =>
    some x1) else (some false)).bind fun p1 =>
    bif p1 then
      grd (InR (n2 + 1)) <|
      m_lex_number_l1 s1 n (n2 + 1)
    else
      some n2
def m_lex_number (s1 : (List UInt8)) : Option LexFound :=
  (m_lex_number_l1 s1 FU 1 : Option Int).bind fun n1 =>
  (sli s1 0 n1).bind fun s2 =>
  (m_wrap_Parse s2).bind fun (x2, x3) =>
  some (⟨(⟨4, ([] : List UInt8), x2, 0⟩ : ApiToken), n1, x3⟩ : LexFound)
theorem w_lex_number {s1 : (List UInt8)} {r_1 : LexFound} (hm : m_lex_number s1 = some r_1) : Fn0 Try.prog 139 [.str s1] (LexFound.d r_1) := by
  unfold m_lex_number at hm
  refine fn_intro Try.func139 rfl Try.ntmps139 rfl fun H0 fr w0 => ?_
  refine g_seq ?_
  refine g_region ?_
  refine go_op rfl rfl rfl (o_alloc_own Try.zeroValue88 (cs := [.i64 0, .str ([] : List UInt8), .i64 0, .i64 0, .i64 0, .i64 0]) rfl) ?_
  rintro _ _ ⟨b1, rfl, rfl⟩
  refine go_nil ?_
  refine g_seq ?_
  refine g_region ?_
  refine go_p rfl rfl rfl (o_assign rfl) ?_
  refine go_nil ?_
  refine g_seq ?_
  obtain ⟨o_1, hj1, hm1⟩ := bind_some hm
  refine g_cut_m [(0, _), (2, _)] [(0, _)] (fun (st : Int) (hid : Unit) => match st, hid with | n1, _ => [(3, .i64 n1)]) (fun F (st : Int) (hid : Unit) => match st, hid with | n1, _ => [(nthF F 0)]) (fun st => st = o_1) ⟨rfl, rfl, trivial⟩ ⟨rfl, trivial⟩ ?_ ?_
  · skip
    refine g_block ?_
    refine g_loop_m [(0, _), (2, _)] [(0, _)] (fun (st : Int) (hid : Unit) => match st, hid with | n2, _ => [(3, .i64 n2)]) (fun F (st : Int) (hid : Unit) => match st, hid with | n2, _ => [(nthF F 0)]) () hj1 (fun _ => rfl) ⟨rfl, rfl, trivial⟩ ⟨rfl, trivial⟩ ⟨rfl, trivial⟩ rfl ?_
    rintro n n2 _ hj1
    rw [m_lex_number_l1] at hj1
    refine g_norm (L' := [(3, .i64 n2), (0, _), (2, _)]) (ms' := [_]) rfl rfl ?_
    refine g_seq ?_
    refine g_seq ?_
    refine g_region ?_
    refine go_p rfl rfl rfl (o_move rfl) ?_
    refine go_p rfl rfl rfl (o_move rfl) ?_
    refine go_p rfl rfl rfl (o_len_str Try.runUnderlying9 rfl) ?_
    refine go_p rfl rfl rfl (o_cmp rfl rfl rfl) ?_
    refine go_p rfl rfl rfl (o_move rfl) ?_
    obtain ⟨p1, hp_1, hj1⟩ := bind_some hj1
    refine go_two [(0, _), (2, _), (3, _)] 5 15 p1 (t := 10) ⟨rfl, rfl, rfl, trivial⟩ rfl (fun hg_1 hk1 => ?_) (fun hg_1 hk1 => ?_) ?_
    · replace hp_1 := cond_t hg_1 hp_1
      refine go_wantp rfl rfl rfl hg_1 rfl rfl (o_move rfl) ?_
      refine go_wantp rfl rfl rfl hg_1 rfl rfl (o_move rfl) ?_
      obtain ⟨c1, hx1, hp_1⟩ := bind_some hp_1
      refine go_wantp rfl rfl rfl hg_1 rfl rfl (o_index_m Try.runUnderlying9 rfl rfl hx1) ?_
      obtain ⟨x1, hx2, hp_1⟩ := bind_some hp_1
      refine go_wantp rfl rfl rfl hg_1 rfl rfl (o_call0 Try.call138 rfl (w_lex_digit hx2)) ?_
      refine go_p rfl rfl rfl (o_pickT rfl hg_1 rfl) ?_
      exact go_meet hk1 (congrArg (fun b => some (D.bool b)) (some_eq hp_1)) ⟨rfl, rfl, rfl, trivial⟩
    · replace hp_1 := cond_f hg_1 hp_1
      refine go_skip rfl rfl rfl hg_1 rfl rfl ?_
      refine go_skip rfl rfl rfl hg_1 rfl rfl ?_
      refine go_skip rfl rfl rfl hg_1 rfl rfl ?_
      refine go_skip rfl rfl rfl hg_1 rfl rfl ?_
      refine go_p rfl rfl rfl (o_pickF rfl hg_1 rfl) ?_
      exact go_meet hk1 (congrArg (fun b => some (D.bool b)) (some_eq hp_1)) ⟨rfl, rfl, rfl, trivial⟩
    refine go_nil ?_
    refine g_cond rfl (fun hc1 => ?_) (fun hc1 => ?_)
    · replace hj1 := cond_t hc1 hj1
      refine g_skip ?_
      refine g_block ?_
      refine g_region ?_
      refine go_p rfl rfl rfl (o_move rfl) ?_
      obtain ⟨hg3, hj1⟩ := grd_some hj1
      refine go_p rfl rfl rfl (o_add rfl rfl (i64_id hg3)) ?_
      refine go_p rfl rfl rfl (o_assign rfl) ?_
      refine go_nil ?_
      exact ⟨_, (), hj1, ⟨rfl, trivial⟩, ⟨rfl, rfl, trivial⟩, [], rfl⟩
    · replace hj1 := cond_f hc1 hj1
      refine g_exit ?_
      exact ⟨_, (), some_eq hj1, ⟨rfl, trivial⟩, ⟨rfl, rfl, trivial⟩, [], rfl⟩
  · rintro n1 _ hst
    subst hst
    refine k_norm (L' := [(3, .i64 n1), (0, _), (2, _)]) (ms' := [_]) rfl rfl ?_
    refine g_seq ?_
    refine g_region ?_
    refine go_p rfl rfl rfl (o_move rfl) ?_
    refine go_p rfl rfl rfl (o_move rfl) ?_
    obtain ⟨s2, hx4, hm1⟩ := bind_some hm1
    refine go_p rfl rfl rfl (o_slice_str_m Try.runUnderlying9 rfl rfl ⟨_, rfl⟩ hx4) ?_
    obtain ⟨⟨x2, x3⟩, hx5, hm1⟩ := bind_some hm1
    refine go_p rfl rfl rfl (o_call0 Try.call155 rfl (w_wrap_Parse hx5)) ?_
    refine go_p rfl rfl rfl (o_move rfl) ?_
    refine go_p rfl rfl rfl (o_extract rfl rfl) ?_
    refine go_p rfl rfl rfl (o_extract rfl rfl) ?_
    refine go_p rfl rfl rfl (o_assign rfl) ?_
    refine go_p rfl rfl rfl (o_assign rfl) ?_
    refine go_nil ?_
    refine g_seq ?_
    refine g_region ?_
    refine go_p rfl rfl rfl (o_move rfl) ?_
    refine go_p rfl rfl rfl (o_build (zs := [.v (.int .i64 0), .str [], .v (.int .i64 0), .v (.int .i64 0)]) Try.runUnderlying28 Try.zeroValue28 (pl_28 _ Try.runUnderlying28) rfl rfl rfl rfl) ?_
    refine go_p rfl rfl rfl (o_move rfl) ?_
    refine go_p rfl rfl rfl (o_move rfl) ?_
    refine go_p rfl rfl rfl (o_build (zs := [.v (.int .i64 0), .str [], .v (.int .i64 0), .v (.int .i64 0), .v (.int .i64 0), .v (.int .i64 0)]) Try.runUnderlying88 Try.zeroValue88 (pl_88 _ Try.runUnderlying88) rfl rfl rfl rfl) ?_
    refine go_u rfl rfl (o_store_box 0 Try.sizeOf88 rfl rfl rfl rfl rfl rfl rfl rfl (Nat.le_of_ble_eq_true rfl)) ?_
    rintro _ _ rfl
    refine go_ms (ms' := [box b1 88 [_, _, _, _, _, _]]) rfl ?_
    refine go_nil ?_
    refine g_ret ?_
    exact retK (ret_one' rfl (ret_cell 0 rfl rfl rfl Try.isAgg88 Try.sizeOf88 rfl) (perm_drop _)) (congrArg (fun (p : LexFound) => (LexFound.d p : D)) (some_eq hm1))
def m_quote_escape (s1 : (List UInt8)) : Option (UInt8 × Int) :=
  bif (decide ((s1 : List UInt8) = ([] : List UInt8))) then
    some ((0 : UInt8), 0)
  else
    (idx s1 0).bind fun c1 =>
    (bif (decide ((c1.toNat : Int) = 34)) then
      some (decide ((c1.toNat : Int) = 34))
    else
      some (decide ((c1.toNat : Int) = 92)) : Option Bool).bind fun x1 =>
    bif x1 then
      (idx s1 0).bind fun c2 =>
      some (c2, 1)
    else
      bif (decide ((c1.toNat : Int) = 110)) then
        some ((10 : UInt8), 1)
      else
        bif (decide ((c1.toNat : Int) = 116)) then
          some ((9 : UInt8), 1)
        else
          bif (decide ((c1.toNat : Int) = 120)) then
            bif (decide ((s1.length : Int) < 3)) then
              some ((0 : UInt8), 0)
            else
              (idx s1 1).bind fun c3 =>
              (idx s1 2).bind fun c4 =>
              bif ((decide ((firstIdx ⟨([48, 49, 50, 51, 52, 53, 54, 55, 56, 57, 97, 98, 99, 100, 101, 102] : List UInt8).toArray⟩ c3) < 0)) || (decide ((firstIdx ⟨([48, 49, 50, 51, 52, 53, 54, 55, 56, 57, 97, 98, 99, 100, 101, 102] : List UInt8).toArray⟩ c4) < 0))) then
                some ((0 : UInt8), 0)
              else
                grd (InR (16 * (firstIdx ⟨([48, 49, 50, 51, 52, 53, 54, 55, 56, 57, 97, 98, 99, 100, 101, 102] : List UInt8).toArray⟩ c3))) <|
                grd (InR ((16 * (firstIdx ⟨([48, 49, 50, 51, 52, 53, 54, 55, 56, 57, 97, 98, 99, 100, 101, 102] : List UInt8).toArray⟩ c3)) + (firstIdx ⟨([48, 49, 50, 51, 52, 53, 54, 55, 56, 57, 97, 98, 99, 100, 101, 102] : List UInt8).toArray⟩ c4))) <|
                some ((toU8 ((16 * (firstIdx ⟨([48, 49, 50, 51, 52, 53, 54, 55, 56, 57, 97, 98, 99, 100, 101, 102] : List UInt8).toArray⟩ c3)) + (firstIdx ⟨([48, 49, 50, 51, 52, 53, 54, 55, 56, 57, 97, 98, 99, 100, 101, 102] : List UInt8).toArray⟩ c4))), 3)
          else
            some ((0 : UInt8), 0)
theorem w_quote_escape {s1 : (List UInt8)} {r_1 : UInt8} {r_2 : Int} (hm : m_quote_escape s1 = some (r_1, r_2)) : Fn0 Try.prog 163 [.str s1] (.tup [.u8 r_1, .i64 r_2]) := by
  unfold m_quote_escape at hm
  refine fn_intro Try.func163 rfl Try.ntmps163 rfl fun H0 fr w0 => ?_
  refine g_seq ?_
  refine g_region ?_
  refine go_p rfl rfl rfl (o_assign rfl) ?_
  refine go_p rfl rfl rfl (o_assign rfl) ?_
  refine go_nil ?_
  refine g_seq ?_
  refine g_seq ?_
  refine g_region ?_
  refine go_p rfl rfl rfl (o_move rfl) ?_
  refine go_p rfl rfl rfl (o_cmps rfl rfl rfl) ?_
  refine go_nil ?_
  refine g_cond rfl (fun hc1 => ?_) (fun hc1 => ?_)
  · replace hm := cond_t hc1 hm
    refine g_seq ?_
    refine g_region ?_
    refine go_p rfl rfl rfl (o_assign rfl) ?_
    refine go_p rfl rfl rfl (o_assign rfl) ?_
    refine go_nil ?_
    refine g_ret ?_
    exact retK (ret_many (ds := [_, _]) rfl (by decide) ⟨ret_tmp rfl, ⟨ret_tmp rfl, rfl⟩⟩ (perm_drop _)) (congrArg (fun (p : (UInt8 × Int)) => D.tup [.u8 p.1, .i64 p.2]) (some_eq hm))
  · replace hm := cond_f hc1 hm
    refine g_skip ?_
    refine g_seq ?_
    refine g_seq ?_
    refine g_region ?_
    refine go_p rfl rfl rfl (o_move rfl) ?_
    obtain ⟨c1, hx1, hm⟩ := bind_some hm
    refine go_p rfl rfl rfl (o_index_m Try.runUnderlying9 rfl rfl hx1) ?_
    refine go_nil ?_
    refine g_block ?_
    refine g_seq ?_
    refine g_seq ?_
    refine g_region ?_
    refine go_p rfl rfl rfl (o_cmp rfl rfl rfl) ?_
    refine go_p rfl rfl rfl (o_assign rfl) ?_
    refine go_nil ?_
    obtain ⟨o_1, hj1, hm1⟩ := bind_some hm
    refine g_cut_m [(0, _), (9, _)] [] (fun (st : Bool) (hid : Unit) => match st, hid with | x1, _ => [(10, .bool x1)]) (fun F (st : Bool) (hid : Unit) => match st, hid with | x1, _ => []) (fun st => st = o_1) ⟨rfl, rfl, trivial⟩ trivial ?_ ?_
    · skip
      refine g_cond rfl (fun hc2 => ?_) (fun hc2 => ?_)
      · replace hj1 := cond_t hc2 hj1
        refine g_skip ?_
        exact ⟨_, (), some_eq hj1, ⟨rfl, trivial⟩, ⟨rfl, rfl, trivial⟩, [], rfl⟩
      · replace hj1 := cond_f hc2 hj1
        refine g_region ?_
        refine go_p rfl rfl rfl (o_cmp rfl rfl rfl) ?_
        refine go_p rfl rfl rfl (o_assign rfl) ?_
        refine go_nil ?_
        exact ⟨_, (), some_eq hj1, ⟨rfl, trivial⟩, ⟨rfl, rfl, trivial⟩, [], rfl⟩
    · rintro x1 _ hst
      subst hst
      refine k_norm (L' := [(10, .bool x1), (0, _), (9, _)]) (ms' := []) rfl rfl ?_
      refine g_cond rfl (fun hc3 => ?_) (fun hc3 => ?_)
      · replace hm1 := cond_t hc3 hm1
        refine g_seq ?_
        refine g_region ?_
        refine go_p rfl rfl rfl (o_move rfl) ?_
        obtain ⟨c2, hx2, hm1⟩ := bind_some hm1
        refine go_p rfl rfl rfl (o_index_m Try.runUnderlying9 rfl rfl hx2) ?_
        refine go_p rfl rfl rfl (o_assign rfl) ?_
        refine go_p rfl rfl rfl (o_assign rfl) ?_
        refine go_nil ?_
        refine g_ret ?_
        exact retK (ret_many (ds := [_, _]) rfl (by decide) ⟨ret_tmp rfl, ⟨ret_tmp rfl, rfl⟩⟩ (perm_drop _)) (congrArg (fun (p : (UInt8 × Int)) => D.tup [.u8 p.1, .i64 p.2]) (some_eq hm1))
      · replace hm1 := cond_f hc3 hm1
        refine g_seq ?_
        refine g_region ?_
        refine go_p rfl rfl rfl (o_cmp rfl rfl rfl) ?_
        refine go_p rfl rfl rfl (o_assign rfl) ?_
        refine go_nil ?_
        refine g_cond rfl (fun hc4 => ?_) (fun hc4 => ?_)
        · replace hm1 := cond_t hc4 hm1
          refine g_seq ?_
          refine g_region ?_
          refine go_p rfl rfl rfl (o_assign rfl) ?_
          refine go_p rfl rfl rfl (o_assign rfl) ?_
          refine go_nil ?_
          refine g_ret ?_
          exact retK (ret_many (ds := [_, _]) rfl (by decide) ⟨ret_tmp rfl, ⟨ret_tmp rfl, rfl⟩⟩ (perm_drop _)) (congrArg (fun (p : (UInt8 × Int)) => D.tup [.u8 p.1, .i64 p.2]) (some_eq hm1))
        · replace hm1 := cond_f hc4 hm1
          refine g_seq ?_
          refine g_region ?_
          refine go_p rfl rfl rfl (o_cmp rfl rfl rfl) ?_
          refine go_p rfl rfl rfl (o_assign rfl) ?_
          refine go_nil ?_
          refine g_cond rfl (fun hc5 => ?_) (fun hc5 => ?_)
          · replace hm1 := cond_t hc5 hm1
            refine g_seq ?_
            refine g_region ?_
            refine go_p rfl rfl rfl (o_assign rfl) ?_
            refine go_p rfl rfl rfl (o_assign rfl) ?_
            refine go_nil ?_
            refine g_ret ?_
            exact retK (ret_many (ds := [_, _]) rfl (by decide) ⟨ret_tmp rfl, ⟨ret_tmp rfl, rfl⟩⟩ (perm_drop _)) (congrArg (fun (p : (UInt8 × Int)) => D.tup [.u8 p.1, .i64 p.2]) (some_eq hm1))
          · replace hm1 := cond_f hc5 hm1
            refine g_seq ?_
            refine g_region ?_
            refine go_p rfl rfl rfl (o_cmp rfl rfl rfl) ?_
            refine go_p rfl rfl rfl (o_assign rfl) ?_
            refine go_nil ?_
            refine g_cond rfl (fun hc6 => ?_) (fun hc6 => ?_)
            · replace hm1 := cond_t hc6 hm1
              refine g_seq ?_
              refine g_seq ?_
              refine g_region ?_
              refine go_p rfl rfl rfl (o_move rfl) ?_
              refine go_p rfl rfl rfl (o_len_str Try.runUnderlying9 rfl) ?_
              refine go_p rfl rfl rfl (o_cmp rfl rfl rfl) ?_
              refine go_nil ?_
              refine g_cond rfl (fun hc7 => ?_) (fun hc7 => ?_)
              · replace hm1 := cond_t hc7 hm1
                refine g_seq ?_
                refine g_region ?_
                refine go_p rfl rfl rfl (o_assign rfl) ?_
                refine go_p rfl rfl rfl (o_assign rfl) ?_
                refine go_nil ?_
                refine g_ret ?_
                exact retK (ret_many (ds := [_, _]) rfl (by decide) ⟨ret_tmp rfl, ⟨ret_tmp rfl, rfl⟩⟩ (perm_drop _)) (congrArg (fun (p : (UInt8 × Int)) => D.tup [.u8 p.1, .i64 p.2]) (some_eq hm1))
              · replace hm1 := cond_f hc7 hm1
                refine g_skip ?_
                refine g_seq ?_
                obtain ⟨c3, hx3, hm1⟩ := bind_some hm1
                obtain ⟨c4, hx4, hm1⟩ := bind_some hm1
                refine g_draw 8 Try_mixed (by decide +kernel) ?_
                refine gd_p rfl rfl rfl (o_move rfl) ?_
                refine gd_p rfl rfl rfl (o_index_m Try.runUnderlying9 rfl rfl hx3) ?_
                refine gd_p rfl rfl rfl (o_call0 Try.call134 rfl (idxByte ([48, 49, 50, 51, 52, 53, 54, 55, 56, 57, 97, 98, 99, 100, 101, 102] : List UInt8) _)) ?_
                refine gd_p rfl rfl rfl (o_move rfl) ?_
                refine gd_p rfl rfl rfl (o_index_m Try.runUnderlying9 rfl rfl hx4) ?_
                refine gd_p rfl rfl rfl (o_call0 Try.call134 rfl (idxByte ([48, 49, 50, 51, 52, 53, 54, 55, 56, 57, 97, 98, 99, 100, 101, 102] : List UInt8) _)) ?_
                refine gd_p rfl rfl rfl (o_assign rfl) ?_
                refine gd_p rfl rfl rfl (o_assign rfl) ?_
                refine gd_nil ?_
                refine go_nil ?_
                refine g_seq ?_
                refine g_seq ?_
                refine g_region ?_
                refine go_p rfl rfl rfl (o_move rfl) ?_
                refine go_p rfl rfl rfl (o_cmp rfl rfl rfl) ?_
                refine go_p rfl rfl rfl (o_move rfl) ?_
                apply go_or [(4, _), (5, _)] 3 35 (t := 32) ⟨rfl, rfl, trivial⟩ rfl
                · intro hg_1 hk1
                  refine go_wantp rfl rfl rfl hg_1 rfl rfl (o_move rfl) ?_
                  refine go_wantp rfl rfl rfl hg_1 rfl rfl (o_cmp rfl rfl rfl) ?_
                  refine go_p rfl rfl rfl (o_pickF rfl hg_1 rfl) ?_
                  exact go_meet hk1 (rfl) ⟨rfl, rfl, trivial⟩
                · intro hg_1 hk1
                  refine go_skip rfl rfl rfl hg_1 rfl rfl ?_
                  refine go_skip rfl rfl rfl hg_1 rfl rfl ?_
                  refine go_p rfl rfl rfl (o_pickT rfl hg_1 rfl) ?_
                  exact go_meet hk1 (rfl) ⟨rfl, rfl, trivial⟩
                refine go_nil ?_
                refine g_cond rfl (fun hc8 => ?_) (fun hc8 => ?_)
                · replace hm1 := cond_t hc8 hm1
                  refine g_seq ?_
                  refine g_region ?_
                  refine go_p rfl rfl rfl (o_assign rfl) ?_
                  refine go_p rfl rfl rfl (o_assign rfl) ?_
                  refine go_nil ?_
                  refine g_ret ?_
                  exact retK (ret_many (ds := [_, _]) rfl (by decide) ⟨ret_tmp rfl, ⟨ret_tmp rfl, rfl⟩⟩ (perm_drop _)) (congrArg (fun (p : (UInt8 × Int)) => D.tup [.u8 p.1, .i64 p.2]) (some_eq hm1))
                · replace hm1 := cond_f hc8 hm1
                  refine g_skip ?_
                  refine g_seq ?_
                  refine g_region ?_
                  refine go_p rfl rfl rfl (o_move rfl) ?_
                  obtain ⟨hg5, hm1⟩ := grd_some hm1
                  refine go_p rfl rfl rfl (o_mul rfl rfl (i64_id hg5)) ?_
                  refine go_p rfl rfl rfl (o_move rfl) ?_
                  obtain ⟨hg6, hm1⟩ := grd_some hm1
                  refine go_p rfl rfl rfl (o_add rfl rfl (i64_id hg6)) ?_
                  refine go_p rfl rfl rfl (o_conv Try.runUnderlying3 Try.runUnderlying5 rfl (toU8_w _)) ?_
                  refine go_p rfl rfl rfl (o_assign rfl) ?_
                  refine go_p rfl rfl rfl (o_assign rfl) ?_
                  refine go_nil ?_
                  refine g_ret ?_
                  exact retK (ret_many (ds := [_, _]) rfl (by decide) ⟨ret_tmp rfl, ⟨ret_tmp rfl, rfl⟩⟩ (perm_drop _)) (congrArg (fun (p : (UInt8 × Int)) => D.tup [.u8 p.1, .i64 p.2]) (some_eq hm1))
            · replace hm1 := cond_f hc6 hm1
              refine g_skip ?_
              refine g_seq ?_
              refine g_region ?_
              refine go_p rfl rfl rfl (o_assign rfl) ?_
              refine go_p rfl rfl rfl (o_assign rfl) ?_
              refine go_nil ?_
              refine g_ret ?_
              exact retK (ret_many (ds := [_, _]) rfl (by decide) ⟨ret_tmp rfl, ⟨ret_tmp rfl, rfl⟩⟩ (perm_drop _)) (congrArg (fun (p : (UInt8 × Int)) => D.tup [.u8 p.1, .i64 p.2]) (some_eq hm1))
def m_quote_plain (c1 : UInt8) : Option Bool :=
  some ((((decide (32 ≤ (c1.toNat : Int))) && (decide ((c1.toNat : Int) ≤ 126))) && (!decide ((c1.toNat : Int) = 34))) && (!decide ((c1.toNat : Int) = 92)))
theorem w_quote_plain {c1 : UInt8} {r_1 : Bool} (hm : m_quote_plain c1 = some r_1) : Fn0 Try.prog 165 [.u8 c1] (.bool r_1) := by
  unfold m_quote_plain at hm
  refine fn_intro Try.func165 rfl Try.ntmps165 rfl fun H0 fr w0 => ?_
  refine g_seq ?_
  refine g_region ?_
  refine go_p rfl rfl rfl (o_assign rfl) ?_
  refine go_nil ?_
  refine g_seq ?_
  refine g_region ?_
  refine go_p rfl rfl rfl (o_move rfl) ?_
  refine go_p rfl rfl rfl (o_cmp rfl rfl rfl) ?_
  refine go_p rfl rfl rfl (o_move rfl) ?_
  apply go_and [(0, _)] 3 8 (t := 5) ⟨rfl, trivial⟩ rfl
  · intro hg_1 hk1
    refine go_wantp rfl rfl rfl hg_1 rfl rfl (o_move rfl) ?_
    refine go_wantp rfl rfl rfl hg_1 rfl rfl (o_cmp rfl rfl rfl) ?_
    refine go_p rfl rfl rfl (o_pickT rfl hg_1 rfl) ?_
    exact go_meet hk1 (rfl) ⟨rfl, trivial⟩
  · intro hg_1 hk1
    refine go_skip rfl rfl rfl hg_1 rfl rfl ?_
    refine go_skip rfl rfl rfl hg_1 rfl rfl ?_
    refine go_p rfl rfl rfl (o_pickF rfl hg_1 rfl) ?_
    exact go_meet hk1 (rfl) ⟨rfl, trivial⟩
  refine go_p rfl rfl rfl (o_move rfl) ?_
  apply go_and [(0, _)] 3 12 (t := 9) ⟨rfl, trivial⟩ rfl
  · intro hg_2 hk2
    refine go_wantp rfl rfl rfl hg_2 rfl rfl (o_move rfl) ?_
    refine go_wantp rfl rfl rfl hg_2 rfl rfl (o_cmp rfl rfl rfl) ?_
    refine go_p rfl rfl rfl (o_pickT rfl hg_2 rfl) ?_
    exact go_meet hk2 (rfl) ⟨rfl, trivial⟩
  · intro hg_2 hk2
    refine go_skip rfl rfl rfl hg_2 rfl rfl ?_
    refine go_skip rfl rfl rfl hg_2 rfl rfl ?_
    refine go_p rfl rfl rfl (o_pickF rfl hg_2 rfl) ?_
    exact go_meet hk2 (rfl) ⟨rfl, trivial⟩
  refine go_p rfl rfl rfl (o_move rfl) ?_
  apply go_and [] 3 16 (t := 13) trivial rfl
  · intro hg_3 hk3
    refine go_wantp rfl rfl rfl hg_3 rfl rfl (o_move rfl) ?_
    refine go_wantp rfl rfl rfl hg_3 rfl rfl (o_cmp rfl rfl rfl) ?_
    refine go_p rfl rfl rfl (o_pickT rfl hg_3 rfl) ?_
    exact go_meet hk3 (rfl) trivial
  · intro hg_3 hk3
    refine go_skip rfl rfl rfl hg_3 rfl rfl ?_
    refine go_skip rfl rfl rfl hg_3 rfl rfl ?_
    refine go_p rfl rfl rfl (o_pickF rfl hg_3 rfl) ?_
    exact go_meet hk3 (rfl) trivial
  refine go_p rfl rfl rfl (o_assign rfl) ?_
  refine go_nil ?_
  refine g_ret ?_
  exact retK (ret_one' rfl (ret_tmp rfl) (perm_drop _)) (congrArg (fun (p : Bool) => (.bool p : D)) (some_eq hm))
def m_quote_Take_l1 (s1 : (List UInt8)) : Nat → (Int × (List UInt8)) → Option (Out ((List UInt8) × Int × Int) (List UInt8))
  | 0, _ => none
  | n + 1, (i1, l2) =>
    bif (decide (i1 < (s1.length : Int))) then
      (idx s1 i1).bind fun c2 =>
      bif (decide ((c2.toNat : Int) = 34)) then
        bif (decide (200 < (l2.length : Int))) then
          some (Out.ret (([] : List UInt8), 0, 7))
        else
          grd (InR (i1 + 1)) <|
          some (Out.ret (l2, (i1 + 1), 0))
      else
        bif (decide ((c2.toNat : Int) = 92)) then
          grd (InR (i1 + 1)) <|
          (sli s1 (i1 + 1) (s1.length : Int)).bind fun s2 =>
          (m_quote_escape s2).bind fun (x1, x2) =>
          bif (decide (x2 = 0)) then
            some (Out.ret (([] : List UInt8), 0, 5))
          else
            grd (l2.length + 1 ≤ 140737488355328) <|
            grd (InR (x2 + 1)) <|
            grd (InR (i1 + (x2 + 1))) <|
            m_quote_Take_l1 s1 n ((i1 + (x2 + 1)), (l2 ++ [x1]))
        else
          (m_quote_plain c2).bind fun x3 =>
          bif x3 then
            grd (l2.length + 1 ≤ 140737488355328) <|
            grd (InR (i1 + 1)) <|
            m_quote_Take_l1 s1 n ((i1 + 1), (l2 ++ [c2]))
          else
            some (Out.ret (([] : List UInt8), 0, 5))
    else
      some (Out.go (l2))
def m_quote_Take (s1 : (List UInt8)) : Option ((List UInt8) × Int × Int) :=
  (bif (decide ((s1 : List UInt8) = ([] : List UInt8))) then (some true) else ((idx s1 0).bind fun c1 =>
  some (!decide ((c1.toNat : Int) = 34)))).bind fun p1 =>
  bif p1 then
    some (([] : List UInt8), 0, 5)
  else
    ((m_quote_Take_l1 s1 FU (1, ([] : List UInt8)) : Option (Out ((List UInt8) × Int × Int) (List UInt8)))).bind (fun oo => oo.on (fun r1 => some r1) (fun l1 =>
    some (([] : List UInt8), 0, 5)))
theorem w_quote_Take {s1 : (List UInt8)} {r_1 : (List UInt8)} {r_2 : Int} {r_3 : Int} (hm : m_quote_Take s1 = some (r_1, r_2, r_3)) : Fn0 Try.prog 156 [.str s1] (.tup [.str r_1, .i64 r_2, .i64 r_3]) := by
  unfold m_quote_Take at hm
  refine fn_intro Try.func156 rfl Try.ntmps156 rfl fun H0 fr w0 => ?_
  refine g_seq ?_
  refine g_region ?_
  refine go_p rfl rfl rfl (o_assign rfl) ?_
  refine go_p rfl rfl rfl (o_assign rfl) ?_
  refine go_p rfl rfl rfl (o_assign rfl) ?_
  refine go_nil ?_
  refine g_seq ?_
  refine g_seq ?_
  refine g_region ?_
  refine go_p rfl rfl rfl (o_move rfl) ?_
  refine go_p rfl rfl rfl (o_cmps rfl rfl rfl) ?_
  refine go_p rfl rfl rfl (o_move rfl) ?_
  obtain ⟨p1, hp_1, hm⟩ := bind_some hm
  refine go_two [(0, _)] 4 16 p1 (t := 12) ⟨rfl, trivial⟩ rfl (fun hg_1 hk1 => ?_) (fun hg_1 hk1 => ?_) ?_
  · replace hp_1 := cond_t hg_1 hp_1
    refine go_skip rfl rfl rfl hg_1 rfl rfl ?_
    refine go_skip rfl rfl rfl hg_1 rfl rfl ?_
    refine go_skip rfl rfl rfl hg_1 rfl rfl ?_
    refine go_p rfl rfl rfl (o_pickT rfl hg_1 rfl) ?_
    exact go_meet hk1 (congrArg (fun b => some (D.bool b)) (some_eq hp_1)) ⟨rfl, trivial⟩
  · replace hp_1 := cond_f hg_1 hp_1
    refine go_wantp rfl rfl rfl hg_1 rfl rfl (o_move rfl) ?_
    obtain ⟨c1, hx1, hp_1⟩ := bind_some hp_1
    refine go_wantp rfl rfl rfl hg_1 rfl rfl (o_index_m Try.runUnderlying9 rfl rfl hx1) ?_
    refine go_wantp rfl rfl rfl hg_1 rfl rfl (o_cmp rfl rfl rfl) ?_
    refine go_p rfl rfl rfl (o_pickF rfl hg_1 rfl) ?_
    exact go_meet hk1 (congrArg (fun b => some (D.bool b)) (some_eq hp_1)) ⟨rfl, trivial⟩
  refine go_nil ?_
  refine g_cond rfl (fun hc1 => ?_) (fun hc1 => ?_)
  · replace hm := cond_t hc1 hm
    refine g_seq ?_
    refine g_region ?_
    refine go_p rfl rfl rfl (o_assign rfl) ?_
    refine go_p rfl rfl rfl (o_assign rfl) ?_
    refine go_p rfl rfl rfl (o_assign rfl) ?_
    refine go_nil ?_
    refine g_ret ?_
    exact retK (ret_many (ds := [_, _, _]) rfl (by decide) ⟨ret_tmp rfl, ⟨ret_tmp rfl, ⟨ret_tmp rfl, rfl⟩⟩⟩ (perm_drop _)) (congrArg (fun (p : ((List UInt8) × Int × Int)) => D.tup [.str p.1, .i64 p.2.1, .i64 p.2.2]) (some_eq hm))
  · replace hm := cond_f hc1 hm
    refine g_skip ?_
    refine g_seq ?_
    refine g_region ?_
    refine go_op rfl rfl rfl (o_alloc_own Try.zeroValue160 (cs := [.v (.pointer none), .v (.slice none 0 0)]) rfl) ?_
    rintro _ _ ⟨b1, rfl, rfl⟩
    refine go_conv (refines_newrow (T := 5) (sz := 1) (f := D.u8)) ?_
    refine go_conv refines_bld ?_
    refine go_nil ?_
    refine g_seq ?_
    refine g_seq ?_
    refine g_region ?_
    refine go_p rfl rfl rfl (o_assign rfl) ?_
    refine go_nil ?_
    obtain ⟨o_1, hj1, hm1⟩ := bind_some hm
    refine g_cut_m [] [] (fun (st : (List UInt8)) (hid : (Option Addr)) => match st, hid with | l1, a_bb1 => []) (fun F (st : (List UInt8)) (hid : (Option Addr)) => match st, hid with | l1, a_bb1 => [bld b1 160 5 a_bb1 l1]) (fun st => Out.go (st) = o_1) trivial trivial ?_ ?_
    · skip
      refine g_block ?_
      refine g_loop_m [(0, _), (5, _)] [] (fun (st : (Int × (List UInt8))) (hid : (Option Addr)) => match st, hid with | (i1, l2), a_bb1 => [(6, .i64 i1)]) (fun F (st : (Int × (List UInt8))) (hid : (Option Addr)) => match st, hid with | (i1, l2), a_bb1 => [bld b1 160 5 a_bb1 l2]) _ hj1 (fun _ => rfl) ⟨rfl, rfl, trivial⟩ trivial ⟨rfl, trivial⟩ rfl ?_
      rintro n ⟨i1, l2⟩ a_bb1 hj1
      rw [m_quote_Take_l1] at hj1
      refine g_norm (L' := [(6, .i64 i1), (0, _), (5, _)]) (ms' := [bld b1 160 5 a_bb1 l2]) rfl rfl ?_
      refine g_seq ?_
      refine g_seq ?_
      refine g_region ?_
      refine go_p rfl rfl rfl (o_move rfl) ?_
      refine go_p rfl rfl rfl (o_move rfl) ?_
      refine go_p rfl rfl rfl (o_len_str Try.runUnderlying9 rfl) ?_
      refine go_p rfl rfl rfl (o_cmp rfl rfl rfl) ?_
      refine go_nil ?_
      refine g_cond rfl (fun hc2 => ?_) (fun hc2 => ?_)
      · replace hj1 := cond_t hc2 hj1
        refine g_skip ?_
        refine g_block ?_
        refine g_seq ?_
        refine g_region ?_
        refine go_p rfl rfl rfl (o_move rfl) ?_
        refine go_p rfl rfl rfl (o_move rfl) ?_
        obtain ⟨c2, hx2, hj1⟩ := bind_some hj1
        refine go_p rfl rfl rfl (o_index_m Try.runUnderlying9 rfl rfl hx2) ?_
        refine go_p rfl rfl rfl (o_assign rfl) ?_
        refine go_nil ?_
        refine g_block ?_
        refine g_seq ?_
        refine g_region ?_
        refine go_p rfl rfl rfl (o_move rfl) ?_
        refine go_p rfl rfl rfl (o_cmp rfl rfl rfl) ?_
        refine go_p rfl rfl rfl (o_assign rfl) ?_
        refine go_nil ?_
        refine g_cond rfl (fun hc3 => ?_) (fun hc3 => ?_)
        · replace hj1 := cond_t hc3 hj1
          refine g_seq ?_
          refine g_seq ?_
          refine g_region ?_
          refine go_op rfl rfl rfl (o_call_bld 0 Try.call161 rfl rfl w_sb_Len) ?_
          rintro _ _ ⟨a_bb1, rfl, rfl⟩
          refine go_p rfl rfl rfl (o_cmp rfl rfl rfl) ?_
          refine go_nil ?_
          refine g_cond rfl (fun hc4 => ?_) (fun hc4 => ?_)
          · replace hj1 := cond_t hc4 hj1
            refine g_seq ?_
            refine g_region ?_
            refine go_p rfl rfl rfl (o_assign rfl) ?_
            refine go_p rfl rfl rfl (o_assign rfl) ?_
            refine go_p rfl rfl rfl (o_assign rfl) ?_
            refine go_nil ?_
            refine g_ret ?_
            obtain rfl := some_eq hj1
            replace hm1 := on_ret hm1
            exact retK (ret_many (ds := [_, _, _]) rfl (by decide) ⟨ret_tmp rfl, ⟨ret_tmp rfl, ⟨ret_tmp rfl, rfl⟩⟩⟩ (perm_drop _)) (congrArg (fun (p : ((List UInt8) × Int × Int)) => D.tup [.str p.1, .i64 p.2.1, .i64 p.2.2]) (some_eq hm1))
          · replace hj1 := cond_f hc4 hj1
            refine g_skip ?_
            refine g_seq ?_
            refine g_region ?_
            refine go_op rfl rfl rfl (o_call_bld_end 0 Try.call162 rfl rfl w_sb_String) ?_
            rintro _ _ ⟨rfl, rfl⟩
            refine go_p rfl rfl rfl (o_move rfl) ?_
            obtain ⟨hg3, hj1⟩ := grd_some hj1
            refine go_p rfl rfl rfl (o_add rfl rfl (i64_id hg3)) ?_
            refine go_p rfl rfl rfl (o_assign rfl) ?_
            refine go_p rfl rfl rfl (o_assign rfl) ?_
            refine go_p rfl rfl rfl (o_assign rfl) ?_
            refine go_nil ?_
            refine g_ret ?_
            obtain rfl := some_eq hj1
            replace hm1 := on_ret hm1
            exact retK (ret_many (ds := [_, _, _]) rfl (by decide) ⟨ret_tmp rfl, ⟨ret_tmp rfl, ⟨ret_tmp rfl, rfl⟩⟩⟩ (perm_drop _)) (congrArg (fun (p : ((List UInt8) × Int × Int)) => D.tup [.str p.1, .i64 p.2.1, .i64 p.2.2]) (some_eq hm1))
        · replace hj1 := cond_f hc3 hj1
          refine g_seq ?_
          refine g_region ?_
          refine go_p rfl rfl rfl (o_move rfl) ?_
          refine go_p rfl rfl rfl (o_cmp rfl rfl rfl) ?_
          refine go_p rfl rfl rfl (o_assign rfl) ?_
          refine go_nil ?_
          refine g_cond rfl (fun hc5 => ?_) (fun hc5 => ?_)
          · replace hj1 := cond_t hc5 hj1
            refine g_seq ?_
            refine g_region ?_
            refine go_p rfl rfl rfl (o_move rfl) ?_
            refine go_p rfl rfl rfl (o_move rfl) ?_
            obtain ⟨hg4, hj1⟩ := grd_some hj1
            refine go_p rfl rfl rfl (o_add rfl rfl (i64_id hg4)) ?_
            obtain ⟨s2, hx5, hj1⟩ := bind_some hj1
            refine go_p rfl rfl rfl (o_slice_str_m Try.runUnderlying9 rfl ⟨_, rfl⟩ rfl hx5) ?_
            obtain ⟨⟨x1, x2⟩, hx6, hj1⟩ := bind_some hj1
            refine go_p rfl rfl rfl (o_call0 Try.call163 rfl (w_quote_escape hx6)) ?_
            refine go_p rfl rfl rfl (o_move rfl) ?_
            refine go_p rfl rfl rfl (o_extract rfl rfl) ?_
            refine go_p rfl rfl rfl (o_extract rfl rfl) ?_
            refine go_p rfl rfl rfl (o_assign rfl) ?_
            refine go_p rfl rfl rfl (o_assign rfl) ?_
            refine go_nil ?_
            refine g_seq ?_
            refine g_seq ?_
            refine g_region ?_
            refine go_p rfl rfl rfl (o_move rfl) ?_
            refine go_p rfl rfl rfl (o_cmp rfl rfl rfl) ?_
            refine go_nil ?_
            refine g_cond rfl (fun hc6 => ?_) (fun hc6 => ?_)
            · replace hj1 := cond_t hc6 hj1
              refine g_seq ?_
              refine g_region ?_
              refine go_p rfl rfl rfl (o_assign rfl) ?_
              refine go_p rfl rfl rfl (o_assign rfl) ?_
              refine go_p rfl rfl rfl (o_assign rfl) ?_
              refine go_nil ?_
              refine g_ret ?_
              obtain rfl := some_eq hj1
              replace hm1 := on_ret hm1
              exact retK (ret_many (ds := [_, _, _]) rfl (by decide) ⟨ret_tmp rfl, ⟨ret_tmp rfl, ⟨ret_tmp rfl, rfl⟩⟩⟩ (perm_drop _)) (congrArg (fun (p : ((List UInt8) × Int × Int)) => D.tup [.str p.1, .i64 p.2.1, .i64 p.2.2]) (some_eq hm1))
            · replace hj1 := cond_f hc6 hj1
              refine g_skip ?_
              refine g_seq ?_
              refine g_region ?_
              refine go_p rfl rfl rfl (o_move rfl) ?_
              obtain ⟨hg7, hj1⟩ := grd_some hj1
              refine go_op rfl rfl rfl (o_call_bld 0 Try.call164 rfl rfl (w_sb_WriteByte _ hg7)) ?_
              rintro _ _ ⟨a_bb1, _, rfl⟩
              refine go_nil ?_
              refine g_region ?_
              refine go_p rfl rfl rfl (o_move rfl) ?_
              refine go_p rfl rfl rfl (o_move rfl) ?_
              obtain ⟨hg8, hj1⟩ := grd_some hj1
              refine go_p rfl rfl rfl (o_add rfl rfl (i64_id hg8)) ?_
              obtain ⟨hg9, hj1⟩ := grd_some hj1
              refine go_p rfl rfl rfl (o_add rfl rfl (i64_id hg9)) ?_
              refine go_p rfl rfl rfl (o_assign rfl) ?_
              refine go_nil ?_
              exact ⟨_, _, hj1, ⟨rfl, trivial⟩, ⟨rfl, rfl, trivial⟩, [], rfl⟩
          · replace hj1 := cond_f hc5 hj1
            refine g_seq ?_
            refine g_region ?_
            refine go_p rfl rfl rfl (o_move rfl) ?_
            obtain ⟨x3, hx10, hj1⟩ := bind_some hj1
            refine go_p rfl rfl rfl (o_call0 Try.call165 rfl (w_quote_plain hx10)) ?_
            refine go_p rfl rfl rfl (o_assign rfl) ?_
            refine go_nil ?_
            refine g_cond rfl (fun hc7 => ?_) (fun hc7 => ?_)
            · replace hj1 := cond_t hc7 hj1
              refine g_seq ?_
              refine g_region ?_
              refine go_p rfl rfl rfl (o_move rfl) ?_
              obtain ⟨hg11, hj1⟩ := grd_some hj1
              refine go_op rfl rfl rfl (o_call_bld 0 Try.call164 rfl rfl (w_sb_WriteByte _ hg11)) ?_
              rintro _ _ ⟨a_bb1, _, rfl⟩
              refine go_nil ?_
              refine g_region ?_
              refine go_p rfl rfl rfl (o_move rfl) ?_
              obtain ⟨hg12, hj1⟩ := grd_some hj1
              refine go_p rfl rfl rfl (o_add rfl rfl (i64_id hg12)) ?_
              refine go_p rfl rfl rfl (o_assign rfl) ?_
              refine go_nil ?_
              exact ⟨_, _, hj1, ⟨rfl, trivial⟩, ⟨rfl, rfl, trivial⟩, [], rfl⟩
            · replace hj1 := cond_f hc7 hj1
              refine g_seq ?_
              refine g_region ?_
              refine go_p rfl rfl rfl (o_assign rfl) ?_
              refine go_p rfl rfl rfl (o_assign rfl) ?_
              refine go_p rfl rfl rfl (o_assign rfl) ?_
              refine go_nil ?_
              refine g_ret ?_
              obtain rfl := some_eq hj1
              replace hm1 := on_ret hm1
              exact retK (ret_many (ds := [_, _, _]) rfl (by decide) ⟨ret_tmp rfl, ⟨ret_tmp rfl, ⟨ret_tmp rfl, rfl⟩⟩⟩ (perm_drop _)) (congrArg (fun (p : ((List UInt8) × Int × Int)) => D.tup [.str p.1, .i64 p.2.1, .i64 p.2.2]) (some_eq hm1))
      · replace hj1 := cond_f hc2 hj1
        refine g_exit ?_
        exact ⟨_, _, some_eq hj1, trivial, trivial, [], rfl⟩
    · rintro l1 a_bb1 hst
      subst hst
      replace hm1 := on_go hm1
      refine k_norm (L' := []) (ms' := [bld b1 160 5 a_bb1 l1]) rfl rfl ?_
      refine g_seq ?_
      refine g_region ?_
      refine go_p rfl rfl rfl (o_assign rfl) ?_
      refine go_p rfl rfl rfl (o_assign rfl) ?_
      refine go_p rfl rfl rfl (o_assign rfl) ?_
      refine go_nil ?_
      refine g_ret ?_
      exact retK (ret_many (ds := [_, _, _]) rfl (by decide) ⟨ret_tmp rfl, ⟨ret_tmp rfl, ⟨ret_tmp rfl, rfl⟩⟩⟩ (perm_drop _)) (congrArg (fun (p : ((List UInt8) × Int × Int)) => D.tup [.str p.1, .i64 p.2.1, .i64 p.2.2]) (some_eq hm1))
def m_lex_text (s1 : (List UInt8)) : Option LexFound :=
  (m_quote_Take s1).bind fun (x1, x2, x3) =>
  some (⟨(⟨5, x1, 0, 0⟩ : ApiToken), x2, x3⟩ : LexFound)
theorem w_lex_text {s1 : (List UInt8)} {r_1 : LexFound} (hm : m_lex_text s1 = some r_1) : Fn0 Try.prog 140 [.str s1] (LexFound.d r_1) := by
  unfold m_lex_text at hm
  refine fn_intro Try.func140 rfl Try.ntmps140 rfl fun H0 fr w0 => ?_
  refine g_seq ?_
  refine g_region ?_
  refine go_op rfl rfl rfl (o_alloc_own Try.zeroValue88 (cs := [.i64 0, .str ([] : List UInt8), .i64 0, .i64 0, .i64 0, .i64 0]) rfl) ?_
  rintro _ _ ⟨b1, rfl, rfl⟩
  refine go_nil ?_
  refine g_seq ?_
  refine g_region ?_
  refine go_p rfl rfl rfl (o_move rfl) ?_
  obtain ⟨⟨x1, x2, x3⟩, hx1, hm⟩ := bind_some hm
  refine go_p rfl rfl rfl (o_call0 Try.call156 rfl (w_quote_Take hx1)) ?_
  refine go_p rfl rfl rfl (o_move rfl) ?_
  refine go_p rfl rfl rfl (o_extract rfl rfl) ?_
  refine go_p rfl rfl rfl (o_extract rfl rfl) ?_
  refine go_p rfl rfl rfl (o_extract rfl rfl) ?_
  refine go_p rfl rfl rfl (o_assign rfl) ?_
  refine go_p rfl rfl rfl (o_assign rfl) ?_
  refine go_p rfl rfl rfl (o_assign rfl) ?_
  refine go_nil ?_
  refine g_seq ?_
  refine g_region ?_
  refine go_p rfl rfl rfl (o_move rfl) ?_
  refine go_p rfl rfl rfl (o_build (zs := [.v (.int .i64 0), .str [], .v (.int .i64 0), .v (.int .i64 0)]) Try.runUnderlying28 Try.zeroValue28 (pl_28 _ Try.runUnderlying28) rfl rfl rfl rfl) ?_
  refine go_p rfl rfl rfl (o_move rfl) ?_
  refine go_p rfl rfl rfl (o_move rfl) ?_
  refine go_p rfl rfl rfl (o_build (zs := [.v (.int .i64 0), .str [], .v (.int .i64 0), .v (.int .i64 0), .v (.int .i64 0), .v (.int .i64 0)]) Try.runUnderlying88 Try.zeroValue88 (pl_88 _ Try.runUnderlying88) rfl rfl rfl rfl) ?_
  refine go_u rfl rfl (o_store_box 0 Try.sizeOf88 rfl rfl rfl rfl rfl rfl rfl rfl (Nat.le_of_ble_eq_true rfl)) ?_
  rintro _ _ rfl
  refine go_ms (ms' := [box b1 88 [_, _, _, _, _, _]]) rfl ?_
  refine go_nil ?_
  refine g_ret ?_
  exact retK (ret_one' rfl (ret_cell 0 rfl rfl rfl Try.isAgg88 Try.sizeOf88 rfl) (perm_drop _)) (congrArg (fun (p : LexFound) => (LexFound.d p : D)) (some_eq hm))
def m_strings_HasPrefix (s1 : (List UInt8)) (prefix1 : (List UInt8)) : Option Bool :=
  (m_internal_stringslite_HasPrefix s1 prefix1).bind fun x1 =>
  some x1
theorem w_strings_HasPrefix {s1 : (List UInt8)} {prefix1 : (List UInt8)} {r_1 : Bool} (hm : m_strings_HasPrefix s1 prefix1 = some r_1) : Fn0 Try.prog 157 [.str s1, .str prefix1] (.bool r_1) := by
  unfold m_strings_HasPrefix at hm
  refine fn_intro Try.func157 rfl Try.ntmps157 rfl fun H0 fr w0 => ?_
  refine g_seq ?_
  refine g_region ?_
  refine go_p rfl rfl rfl (o_assign rfl) ?_
  refine go_nil ?_
  refine g_seq ?_
  refine g_region ?_
  refine go_p rfl rfl rfl (o_move rfl) ?_
  refine go_p rfl rfl rfl (o_move rfl) ?_
  obtain ⟨x1, hx1, hm⟩ := bind_some hm
  refine go_p rfl rfl rfl (o_call0 Try.call166 rfl (w_internal_stringslite_HasPrefix hx1)) ?_
  refine go_p rfl rfl rfl (o_assign rfl) ?_
  refine go_nil ?_
  refine g_ret ?_
  exact retK (ret_one' rfl (ret_tmp rfl) (perm_drop _)) (congrArg (fun (p : Bool) => (.bool p : D)) (some_eq hm))
def m_lex_sign (s1 : (List UInt8)) : Option LexFound :=
  (m_strings_HasPrefix s1 ([45, 62] : List UInt8)).bind fun x1 =>
  (bif x1 then (some true) else ((m_strings_HasPrefix s1 ([61, 61] : List UInt8)).bind fun x2 =>
  some x2)).bind fun p1 =>
  bif p1 then
    (sli s1 0 2).bind fun s2 =>
    some (⟨(⟨7, s2, 0, 0⟩ : ApiToken), 2, 0⟩ : LexFound)
  else
    (idx s1 0).bind fun c1 =>
    bif (decide ((firstIdx ⟨([59, 58, 44, 46, 61, 60, 62, 43, 45, 42, 47, 94, 40, 41, 123, 125, 91, 93, 124, 38] : List UInt8).toArray⟩ c1) < 0)) then
      some (⟨(⟨0, ([] : List UInt8), 0, 0⟩ : ApiToken), 0, 5⟩ : LexFound)
    else
      (sli s1 0 1).bind fun s3 =>
      some (⟨(⟨7, s3, 0, 0⟩ : ApiToken), 1, 0⟩ : LexFound)
theorem w_lex_sign {s1 : (List UInt8)} {r_1 : LexFound} (hm : m_lex_sign s1 = some r_1) : Fn0 Try.prog 141 [.str s1] (LexFound.d r_1) := by
  unfold m_lex_sign at hm
  refine fn_intro Try.func141 rfl Try.ntmps141 rfl fun H0 fr w0 => ?_
  refine g_seq ?_
  refine g_region ?_
  refine go_op rfl rfl rfl (o_alloc_own Try.zeroValue88 (cs := [.i64 0, .str ([] : List UInt8), .i64 0, .i64 0, .i64 0, .i64 0]) rfl) ?_
  rintro _ _ ⟨b1, rfl, rfl⟩
  refine go_nil ?_
  refine g_seq ?_
  refine g_region ?_
  refine go_p rfl rfl rfl (o_assign rfl) ?_
  refine go_nil ?_
  refine g_seq ?_
  refine g_block ?_
  refine g_seq ?_
  refine g_region ?_
  refine go_p rfl rfl rfl (o_move rfl) ?_
  obtain ⟨x1, hx1, hm⟩ := bind_some hm
  refine go_p rfl rfl rfl (o_call0 Try.call157 rfl (w_strings_HasPrefix hx1)) ?_
  refine go_p rfl rfl rfl (o_move rfl) ?_
  obtain ⟨p1, hp_1, hm⟩ := bind_some hm
  refine go_two [(0, _), (2, _), (3, _)] 3 10 p1 (t := 7) ⟨rfl, rfl, rfl, trivial⟩ rfl (fun hg_1 hk1 => ?_) (fun hg_1 hk1 => ?_) ?_
  · replace hp_1 := cond_t hg_1 hp_1
    refine go_skip rfl rfl rfl hg_1 rfl rfl ?_
    refine go_skip rfl rfl rfl hg_1 rfl rfl ?_
    refine go_p rfl rfl rfl (o_pickT rfl hg_1 rfl) ?_
    exact go_meet hk1 (congrArg (fun b => some (D.bool b)) (some_eq hp_1)) ⟨rfl, rfl, rfl, trivial⟩
  · replace hp_1 := cond_f hg_1 hp_1
    refine go_wantp rfl rfl rfl hg_1 rfl rfl (o_move rfl) ?_
    obtain ⟨x2, hx2, hp_1⟩ := bind_some hp_1
    refine go_wantp rfl rfl rfl hg_1 rfl rfl (o_call0 Try.call157 rfl (w_strings_HasPrefix hx2)) ?_
    refine go_p rfl rfl rfl (o_pickF rfl hg_1 rfl) ?_
    exact go_meet hk1 (congrArg (fun b => some (D.bool b)) (some_eq hp_1)) ⟨rfl, rfl, rfl, trivial⟩
  refine go_p rfl rfl rfl (o_assign rfl) ?_
  refine go_nil ?_
  refine g_cond rfl (fun hc1 => ?_) (fun hc1 => ?_)
  · replace hm := cond_t hc1 hm
    refine g_region ?_
    refine go_p rfl rfl rfl (o_assign rfl) ?_
    refine go_nil ?_
    refine g_seq ?_
    refine g_region ?_
    refine go_p rfl rfl rfl (o_move rfl) ?_
    refine go_p rfl rfl rfl (o_move rfl) ?_
    obtain ⟨s2, hx3, hm⟩ := bind_some hm
    refine go_p rfl rfl rfl (o_slice_str_m Try.runUnderlying9 rfl rfl ⟨_, rfl⟩ hx3) ?_
    refine go_p rfl rfl rfl (o_build (zs := [.v (.int .i64 0), .str [], .v (.int .i64 0), .v (.int .i64 0)]) Try.runUnderlying28 Try.zeroValue28 (pl_28 _ Try.runUnderlying28) rfl rfl rfl rfl) ?_
    refine go_p rfl rfl rfl (o_move rfl) ?_
    refine go_p rfl rfl rfl (o_build (zs := [.v (.int .i64 0), .str [], .v (.int .i64 0), .v (.int .i64 0), .v (.int .i64 0), .v (.int .i64 0)]) Try.runUnderlying88 Try.zeroValue88 (pl_88 _ Try.runUnderlying88) rfl rfl rfl rfl) ?_
    refine go_u rfl rfl (o_store_box 0 Try.sizeOf88 rfl rfl rfl rfl rfl rfl rfl rfl (Nat.le_of_ble_eq_true rfl)) ?_
    rintro _ _ rfl
    refine go_ms (ms' := [box b1 88 [_, _, _, _, _, _]]) rfl ?_
    refine go_nil ?_
    refine g_ret ?_
    exact retK (ret_one' rfl (ret_cell 0 rfl rfl rfl Try.isAgg88 Try.sizeOf88 rfl) (perm_drop _)) (congrArg (fun (p : LexFound) => (LexFound.d p : D)) (some_eq hm))
  · replace hm := cond_f hc1 hm
    refine g_seq ?_
    refine g_region ?_
    refine go_p rfl rfl rfl (o_move rfl) ?_
    obtain ⟨c1, hx4, hm⟩ := bind_some hm
    refine go_p rfl rfl rfl (o_index_m Try.runUnderlying9 rfl rfl hx4) ?_
    refine go_p rfl rfl rfl (o_call0 Try.call134 rfl (idxByte ([59, 58, 44, 46, 61, 60, 62, 43, 45, 42, 47, 94, 40, 41, 123, 125, 91, 93, 124, 38] : List UInt8) _)) ?_
    refine go_p rfl rfl rfl (o_cmp rfl rfl rfl) ?_
    refine go_p rfl rfl rfl (o_assign rfl) ?_
    refine go_nil ?_
    refine g_cond rfl (fun hc2 => ?_) (fun hc2 => ?_)
    · replace hm := cond_t hc2 hm
      refine g_seq ?_
      refine g_region ?_
      refine go_p rfl rfl rfl (o_build (zs := [.v (.int .i64 0), .str [], .v (.int .i64 0), .v (.int .i64 0), .v (.int .i64 0), .v (.int .i64 0)]) Try.runUnderlying88 Try.zeroValue88 (pl_88 _ Try.runUnderlying88) rfl rfl rfl rfl) ?_
      refine go_u rfl rfl (o_store_box 0 Try.sizeOf88 rfl rfl rfl rfl rfl rfl rfl rfl (Nat.le_of_ble_eq_true rfl)) ?_
      rintro _ _ rfl
      refine go_ms (ms' := [box b1 88 [_, _, _, _, _, _]]) rfl ?_
      refine go_nil ?_
      refine g_ret ?_
      exact retK (ret_one' rfl (ret_cell 0 rfl rfl rfl Try.isAgg88 Try.sizeOf88 rfl) (perm_drop _)) (congrArg (fun (p : LexFound) => (LexFound.d p : D)) (some_eq hm))
    · replace hm := cond_f hc2 hm
      refine g_skip ?_
      refine g_seq ?_
      refine g_region ?_
      refine go_p rfl rfl rfl (o_move rfl) ?_
      refine go_p rfl rfl rfl (o_move rfl) ?_
      obtain ⟨s3, hx5, hm⟩ := bind_some hm
      refine go_p rfl rfl rfl (o_slice_str_m Try.runUnderlying9 rfl rfl ⟨_, rfl⟩ hx5) ?_
      refine go_p rfl rfl rfl (o_build (zs := [.v (.int .i64 0), .str [], .v (.int .i64 0), .v (.int .i64 0)]) Try.runUnderlying28 Try.zeroValue28 (pl_28 _ Try.runUnderlying28) rfl rfl rfl rfl) ?_
      refine go_p rfl rfl rfl (o_move rfl) ?_
      refine go_p rfl rfl rfl (o_build (zs := [.v (.int .i64 0), .str [], .v (.int .i64 0), .v (.int .i64 0), .v (.int .i64 0), .v (.int .i64 0)]) Try.runUnderlying88 Try.zeroValue88 (pl_88 _ Try.runUnderlying88) rfl rfl rfl rfl) ?_
      refine go_u rfl rfl (o_store_box 0 Try.sizeOf88 rfl rfl rfl rfl rfl rfl rfl rfl (Nat.le_of_ble_eq_true rfl)) ?_
      rintro _ _ rfl
      refine go_ms (ms' := [box b1 88 [_, _, _, _, _, _]]) rfl ?_
      refine go_nil ?_
      refine g_ret ?_
      exact retK (ret_one' rfl (ret_cell 0 rfl rfl rfl Try.isAgg88 Try.sizeOf88 rfl) (perm_drop _)) (congrArg (fun (p : LexFound) => (LexFound.d p : D)) (some_eq hm))
def m_lex_one (s1 : (List UInt8)) : Option LexFound :=
  (m_name_Word s1).bind fun x1 =>
  bif (decide (0 < x1)) then
    (m_lex_word s1 x1).bind fun x2 =>
    some (⟨(⟨x2.t.kind, x2.t.s, x2.t.n_, x2.t.pos⟩ : ApiToken), x2.n_, x2.e_⟩ : LexFound)
  else
    (idx s1 0).bind fun c1 =>
    bif (decide ((c1.toNat : Int) = 39)) then
      (m_lex_variable s1).bind fun x3 =>
      some (⟨(⟨x3.t.kind, x3.t.s, x3.t.n_, x3.t.pos⟩ : ApiToken), x3.n_, x3.e_⟩ : LexFound)
    else
      (m_lex_digit c1).bind fun x4 =>
      bif (x4 || (decide ((c1.toNat : Int) = 126))) then
        (m_lex_number s1).bind fun x5 =>
        some (⟨(⟨x5.t.kind, x5.t.s, x5.t.n_, x5.t.pos⟩ : ApiToken), x5.n_, x5.e_⟩ : LexFound)
      else
        bif (decide ((c1.toNat : Int) = 34)) then
          (m_lex_text s1).bind fun x6 =>
          some (⟨(⟨x6.t.kind, x6.t.s, x6.t.n_, x6.t.pos⟩ : ApiToken), x6.n_, x6.e_⟩ : LexFound)
        else
          (m_lex_sign s1).bind fun x7 =>
          some (⟨(⟨x7.t.kind, x7.t.s, x7.t.n_, x7.t.pos⟩ : ApiToken), x7.n_, x7.e_⟩ : LexFound)
theorem w_lex_one {s1 : (List UInt8)} {r_1 : LexFound} (hm : m_lex_one s1 = some r_1) : Fn0 Try.prog 104 [.str s1] (LexFound.d r_1) := by
  unfold m_lex_one at hm
  refine fn_intro Try.func104 rfl Try.ntmps104 rfl fun H0 fr w0 => ?_
  refine g_seq ?_
  refine g_region ?_
  refine go_op rfl rfl rfl (o_alloc_own Try.zeroValue88 (cs := [.i64 0, .str ([] : List UInt8), .i64 0, .i64 0, .i64 0, .i64 0]) rfl) ?_
  rintro _ _ ⟨b1, rfl, rfl⟩
  refine go_nil ?_
  refine g_seq ?_
  refine g_seq ?_
  refine g_region ?_
  refine go_p rfl rfl rfl (o_move rfl) ?_
  obtain ⟨x1, hx1, hm⟩ := bind_some hm
  refine go_p rfl rfl rfl (o_call0 Try.call135 rfl (w_name_Word hx1)) ?_
  refine go_p rfl rfl rfl (o_assign rfl) ?_
  refine go_nil ?_
  refine g_seq ?_
  refine g_region ?_
  refine go_p rfl rfl rfl (o_move rfl) ?_
  refine go_p rfl rfl rfl (o_cmp rfl rfl rfl) ?_
  refine go_nil ?_
  refine g_cond rfl (fun hc1 => ?_) (fun hc1 => ?_)
  · replace hm := cond_t hc1 hm
    refine g_seq ?_
    refine g_region ?_
    refine go_p rfl rfl rfl (o_move rfl) ?_
    refine go_p rfl rfl rfl (o_move rfl) ?_
    obtain ⟨x2, hx2, hm⟩ := bind_some hm
    refine go_p rfl rfl rfl (o_call0 Try.call136 rfl (w_lex_word hx2)) ?_
    refine go_u rfl rfl (o_store_box 0 Try.sizeOf88 rfl rfl rfl rfl rfl rfl rfl rfl (Nat.le_of_ble_eq_true rfl)) ?_
    rintro _ _ rfl
    refine go_ms (ms' := [box b1 88 [_, _, _, _, _, _]]) rfl ?_
    refine go_nil ?_
    refine g_ret ?_
    exact retK (ret_one' rfl (ret_cell 0 rfl rfl rfl Try.isAgg88 Try.sizeOf88 rfl) (perm_drop _)) (congrArg (fun (p : LexFound) => (LexFound.d p : D)) (some_eq hm))
  · replace hm := cond_f hc1 hm
    refine g_skip ?_
    refine g_seq ?_
    refine g_seq ?_
    refine g_region ?_
    refine go_p rfl rfl rfl (o_move rfl) ?_
    obtain ⟨c1, hx3, hm⟩ := bind_some hm
    refine go_p rfl rfl rfl (o_index_m Try.runUnderlying9 rfl rfl hx3) ?_
    refine go_p rfl rfl rfl (o_assign rfl) ?_
    refine go_nil ?_
    refine g_block ?_
    refine g_seq ?_
    refine g_region ?_
    refine go_p rfl rfl rfl (o_move rfl) ?_
    refine go_p rfl rfl rfl (o_cmp rfl rfl rfl) ?_
    refine go_p rfl rfl rfl (o_assign rfl) ?_
    refine go_nil ?_
    refine g_cond rfl (fun hc2 => ?_) (fun hc2 => ?_)
    · replace hm := cond_t hc2 hm
      refine g_seq ?_
      refine g_region ?_
      refine go_p rfl rfl rfl (o_move rfl) ?_
      obtain ⟨x3, hx4, hm⟩ := bind_some hm
      refine go_p rfl rfl rfl (o_call0 Try.call137 rfl (w_lex_variable hx4)) ?_
      refine go_u rfl rfl (o_store_box 0 Try.sizeOf88 rfl rfl rfl rfl rfl rfl rfl rfl (Nat.le_of_ble_eq_true rfl)) ?_
      rintro _ _ rfl
      refine go_ms (ms' := [box b1 88 [_, _, _, _, _, _]]) rfl ?_
      refine go_nil ?_
      refine g_ret ?_
      exact retK (ret_one' rfl (ret_cell 0 rfl rfl rfl Try.isAgg88 Try.sizeOf88 rfl) (perm_drop _)) (congrArg (fun (p : LexFound) => (LexFound.d p : D)) (some_eq hm))
    · replace hm := cond_f hc2 hm
      refine g_seq ?_
      refine g_region ?_
      refine go_p rfl rfl rfl (o_move rfl) ?_
      obtain ⟨x4, hx5, hm⟩ := bind_some hm
      refine go_p rfl rfl rfl (o_call0 Try.call138 rfl (w_lex_digit hx5)) ?_
      refine go_p rfl rfl rfl (o_move rfl) ?_
      apply go_or [(0, _), (2, _), (4, _)] 3 25 (t := 22) ⟨rfl, rfl, rfl, trivial⟩ rfl
      · intro hg_1 hk1
        refine go_wantp rfl rfl rfl hg_1 rfl rfl (o_move rfl) ?_
        refine go_wantp rfl rfl rfl hg_1 rfl rfl (o_cmp rfl rfl rfl) ?_
        refine go_p rfl rfl rfl (o_pickF rfl hg_1 rfl) ?_
        exact go_meet hk1 (rfl) ⟨rfl, rfl, rfl, trivial⟩
      · intro hg_1 hk1
        refine go_skip rfl rfl rfl hg_1 rfl rfl ?_
        refine go_skip rfl rfl rfl hg_1 rfl rfl ?_
        refine go_p rfl rfl rfl (o_pickT rfl hg_1 rfl) ?_
        exact go_meet hk1 (rfl) ⟨rfl, rfl, rfl, trivial⟩
      refine go_p rfl rfl rfl (o_assign rfl) ?_
      refine go_nil ?_
      refine g_cond rfl (fun hc3 => ?_) (fun hc3 => ?_)
      · replace hm := cond_t hc3 hm
        refine g_seq ?_
        refine g_region ?_
        refine go_p rfl rfl rfl (o_move rfl) ?_
        obtain ⟨x5, hx6, hm⟩ := bind_some hm
        refine go_p rfl rfl rfl (o_call0 Try.call139 rfl (w_lex_number hx6)) ?_
        refine go_u rfl rfl (o_store_box 0 Try.sizeOf88 rfl rfl rfl rfl rfl rfl rfl rfl (Nat.le_of_ble_eq_true rfl)) ?_
        rintro _ _ rfl
        refine go_ms (ms' := [box b1 88 [_, _, _, _, _, _]]) rfl ?_
        refine go_nil ?_
        refine g_ret ?_
        exact retK (ret_one' rfl (ret_cell 0 rfl rfl rfl Try.isAgg88 Try.sizeOf88 rfl) (perm_drop _)) (congrArg (fun (p : LexFound) => (LexFound.d p : D)) (some_eq hm))
      · replace hm := cond_f hc3 hm
        refine g_seq ?_
        refine g_region ?_
        refine go_p rfl rfl rfl (o_move rfl) ?_
        refine go_p rfl rfl rfl (o_cmp rfl rfl rfl) ?_
        refine go_p rfl rfl rfl (o_assign rfl) ?_
        refine go_nil ?_
        refine g_cond rfl (fun hc4 => ?_) (fun hc4 => ?_)
        · replace hm := cond_t hc4 hm
          refine g_seq ?_
          refine g_region ?_
          refine go_p rfl rfl rfl (o_move rfl) ?_
          obtain ⟨x6, hx7, hm⟩ := bind_some hm
          refine go_p rfl rfl rfl (o_call0 Try.call140 rfl (w_lex_text hx7)) ?_
          refine go_u rfl rfl (o_store_box 0 Try.sizeOf88 rfl rfl rfl rfl rfl rfl rfl rfl (Nat.le_of_ble_eq_true rfl)) ?_
          rintro _ _ rfl
          refine go_ms (ms' := [box b1 88 [_, _, _, _, _, _]]) rfl ?_
          refine go_nil ?_
          refine g_ret ?_
          exact retK (ret_one' rfl (ret_cell 0 rfl rfl rfl Try.isAgg88 Try.sizeOf88 rfl) (perm_drop _)) (congrArg (fun (p : LexFound) => (LexFound.d p : D)) (some_eq hm))
        · replace hm := cond_f hc4 hm
          refine g_skip ?_
          refine g_seq ?_
          refine g_region ?_
          refine go_p rfl rfl rfl (o_move rfl) ?_
          obtain ⟨x7, hx8, hm⟩ := bind_some hm
          refine go_p rfl rfl rfl (o_call0 Try.call141 rfl (w_lex_sign hx8)) ?_
          refine go_u rfl rfl (o_store_box 0 Try.sizeOf88 rfl rfl rfl rfl rfl rfl rfl rfl (Nat.le_of_ble_eq_true rfl)) ?_
          rintro _ _ rfl
          refine go_ms (ms' := [box b1 88 [_, _, _, _, _, _]]) rfl ?_
          refine go_nil ?_
          refine g_ret ?_
          exact retK (ret_one' rfl (ret_cell 0 rfl rfl rfl Try.isAgg88 Try.sizeOf88 rfl) (perm_drop _)) (congrArg (fun (p : LexFound) => (LexFound.d p : D)) (some_eq hm))
theorem fi_88_2 : FieldIs Try.prog 88 2 5 1 false := ⟨⟨_, _, Try.runUnderlying88, rfl, rfl, Try.sizeOf24, by decide, Try.isAgg24⟩⟩
theorem fi_88_1 : FieldIs Try.prog 88 1 4 1 false := ⟨⟨_, _, Try.runUnderlying88, rfl, rfl, Try.sizeOf3, by decide, Try.isAgg3⟩⟩
def m_tokens_l1 (c1 : (List UInt8)) : Nat → Int → Option (List (Int × LexFound))
  | 0, _ => none
  | n + 1, at1 =>
    bif (decide (at1 < (c1.length : Int))) then
      (sli c1 at1 (c1.length : Int)).bind fun s1 =>
      (m_lex_one s1).bind fun x2 =>
      (bif (!decide (x2.e_ = 0)) then
        some []
      else
        grd (InR (at1 + x2.n_)) <|
        (sli c1 (at1 + x2.n_) (c1.length : Int)).bind fun s2 =>
        (m_lex_pass s2).bind fun x3 =>
        grd (InR ((at1 + x2.n_) + x3)) <|
        m_tokens_l1 c1 n ((at1 + x2.n_) + x3)).bind fun ys => some ((at1, (⟨(⟨x2.t.kind, x2.t.s, x2.t.n_, x2.t.pos⟩ : ApiToken), x2.n_, x2.e_⟩ : LexFound)) :: ys)
    else
      some []
def m_tokens (c1 : (List UInt8)) : Option (List (Int × LexFound)) :=
  (m_lex_pass c1).bind fun x1 =>
  m_tokens_l1 c1 FU x1
theorem it_tokens {c1 : (List UInt8)} {xs : (List (Int × LexFound))} (hm : m_tokens c1 = some xs) : Iter Try.prog 102 [.ref (.str c1)] (xs.map fun (p : (Int × LexFound)) => [.i64 p.1, LexFound.d p.2]) := by
  intro y hys J Jx hy tl_0 hJ_0
  have hk_0 : 0 ≤ xs.length := Nat.zero_le _
  replace hm : _ = some (xs.drop 0) := hm
  unfold m_tokens at hm
  refine fn_intro Try.func102 rfl Try.ntmps102 rfl fun H0 fr w0 => ?_
  refine g_seq ?_
  refine g_region ?_
  refine go_p rfl rfl rfl (o_load Try.isAgg9 rfl rfl) ?_
  obtain ⟨x1, hx1, hm⟩ := bind_some hm
  refine go_p rfl rfl rfl (o_call0 Try.call103 rfl (w_lex_pass hx1)) ?_
  refine go_p rfl rfl rfl (o_assign rfl) ?_
  refine go_nil ?_
  refine g_block ?_
  refine g_loop_y (fun (hid : {p : Nat × List Asrt // p.1 ≤ xs.length ∧ J p.1 p.2}) => xs.drop hid.1.1) [(0, _), (1, _)] [] (fun (st : Int) (hid : {p : Nat × List Asrt // p.1 ≤ xs.length ∧ J p.1 p.2}) => match st, hid with | at1, ⟨(k_2, tl_2), hk_2, hJ_2⟩ => [(3, .i64 at1)]) (fun F (st : Int) (hid : {p : Nat × List Asrt // p.1 ≤ xs.length ∧ J p.1 p.2}) => match st, hid with | at1, ⟨(k_2, tl_2), hk_2, hJ_2⟩ => [] ++ tl_2) ⟨(0, tl_0), hk_0, hJ_0⟩ hm rfl (fun _ => rfl) ⟨rfl, rfl, trivial⟩ trivial ⟨rfl, trivial⟩ rfl ?_
  rintro n at1 ⟨⟨k_2, tl_2⟩, hk_2, hJ_2⟩ hm
  replace hm : _ = some (xs.drop k_2) := hm
  rw [m_tokens_l1] at hm
  refine g_norm (L' := [(3, .i64 at1), (0, _), (1, _)]) (ms' := [] ++ tl_2) rfl rfl ?_
  refine g_seq ?_
  refine g_seq ?_
  refine g_region ?_
  refine go_p rfl rfl rfl (o_move rfl) ?_
  refine go_p rfl rfl rfl (o_load Try.isAgg9 rfl rfl) ?_
  refine go_p rfl rfl rfl (o_len_str Try.runUnderlying9 rfl) ?_
  refine go_p rfl rfl rfl (o_cmp rfl rfl rfl) ?_
  refine go_nil ?_
  refine g_cond rfl (fun hc1 => ?_) (fun hc1 => ?_)
  · replace hm := cond_t hc1 hm
    refine g_skip ?_
    refine g_seq ?_
    refine g_block ?_
    refine g_seq ?_
    refine g_region ?_
    refine go_p rfl rfl rfl (o_load Try.isAgg9 rfl rfl) ?_
    refine go_p rfl rfl rfl (o_move rfl) ?_
    obtain ⟨s1, hx2, hm⟩ := bind_some hm
    refine go_p rfl rfl rfl (o_slice_str_m Try.runUnderlying9 rfl ⟨_, rfl⟩ rfl hx2) ?_
    obtain ⟨x2, hx3, hm⟩ := bind_some hm
    refine go_p rfl rfl rfl (o_call0 Try.call104 rfl (w_lex_one hx3)) ?_
    refine go_op rfl rfl rfl (o_alloc_own Try.zeroValue88 (cs := [.i64 0, .str ([] : List UInt8), .i64 0, .i64 0, .i64 0, .i64 0]) rfl) ?_
    rintro _ _ ⟨b1, rfl, rfl⟩
    refine go_u rfl rfl (o_store_box 0 Try.sizeOf88 rfl rfl rfl rfl rfl rfl rfl rfl (Nat.le_of_ble_eq_true rfl)) ?_
    rintro _ _ rfl
    refine go_ms (ms' := [box b1 88 [_, _, _, _, _, _]] ++ tl_2) rfl ?_
    refine go_nil ?_
    refine g_seq ?_
    refine g_seq ?_
    refine g_region ?_
    refine go_p rfl rfl rfl (o_move rfl) ?_
    refine go_p rfl rfl rfl (o_move rfl) ?_
    refine go_p rfl rfl rfl (o_load_box_agg 0 Try.isAgg88 Try.sizeOf88 rfl rfl rfl rfl (Nat.le_of_ble_eq_true rfl)) ?_
    obtain ⟨ys_3, hm, he_3⟩ := bind_some hm
    obtain ⟨hy_3, hk_3, rfl⟩ := yield_at he_3
    refine go_op rfl rfl rfl (o_yield [_] tl_2 rfl rfl (hy k_2 _ tl_2 (map_at hy_3) hJ_2)) ?_
    rintro _ _ ⟨_ | _, tl_3, rfl, rfl, hJ_3, hs_3⟩
    · skip
      refine go_p rfl rfl rfl (o_not rfl) ?_
      refine go_p rfl rfl rfl (o_move rfl) ?_
      refine go_skip rfl rfl rfl rfl rfl rfl ?_
      refine go_skip rfl rfl rfl rfl rfl rfl ?_
      refine go_skip rfl rfl rfl rfl rfl rfl ?_
      refine go_p rfl rfl rfl (o_pickT rfl rfl rfl) ?_
      refine go_nil ?_
      refine g_cond_true rfl rfl ?_
      refine g_ret ?_
      exact retK (ret_none (ms' := tl_3) (drop := [_]) rfl (List.Perm.refl _)) (.inr (hs_3 rfl))
    · skip
      refine go_p rfl rfl rfl (o_not rfl) ?_
      refine go_p rfl rfl rfl (o_move rfl) ?_
      refine go_wantp rfl rfl rfl rfl rfl rfl (o_fieldAddr_box fi_88_2 rfl) ?_
      refine go_wantp rfl rfl rfl rfl rfl rfl (o_load_box 0 Try.isAgg24 rfl rfl rfl rfl) ?_
      refine go_wantp rfl rfl rfl rfl rfl rfl (o_cmp rfl rfl rfl) ?_
      refine go_p rfl rfl rfl (o_pickF rfl rfl rfl) ?_
      refine go_nil ?_
      refine g_cond rfl (fun hc2 => ?_) (fun hc2 => ?_)
      · replace hm := cond_t hc2 hm
        refine g_ret ?_
        exact retK (ret_none (ms' := tl_3) (drop := [_]) rfl (List.Perm.refl _)) (.inl (yield_end hm hk_3 (hJ_3 rfl) _))
      · replace hm := cond_f hc2 hm
        refine g_skip ?_
        refine g_region ?_
        refine go_p rfl rfl rfl (o_move rfl) ?_
        refine go_p rfl rfl rfl (o_fieldAddr_box fi_88_1 rfl) ?_
        refine go_p rfl rfl rfl (o_load_box 0 Try.isAgg3 rfl rfl rfl rfl) ?_
        obtain ⟨hg4, hm⟩ := grd_some hm
        refine go_p rfl rfl rfl (o_add rfl rfl (i64_id hg4)) ?_
        refine go_p rfl rfl rfl (o_assign rfl) ?_
        refine go_nil ?_
        refine g_region ?_
        refine go_p rfl rfl rfl (o_move rfl) ?_
        refine go_p rfl rfl rfl (o_load Try.isAgg9 rfl rfl) ?_
        refine go_p rfl rfl rfl (o_move rfl) ?_
        obtain ⟨s2, hx5, hm⟩ := bind_some hm
        refine go_p rfl rfl rfl (o_slice_str_m Try.runUnderlying9 rfl ⟨_, rfl⟩ rfl hx5) ?_
        obtain ⟨x3, hx6, hm⟩ := bind_some hm
        refine go_p rfl rfl rfl (o_call0 Try.call103 rfl (w_lex_pass hx6)) ?_
        obtain ⟨hg7, hm⟩ := grd_some hm
        refine go_p rfl rfl rfl (o_add rfl rfl (i64_id hg7)) ?_
        refine go_p rfl rfl rfl (o_assign rfl) ?_
        refine go_nil ?_
        exact ⟨_, ⟨((k_2 + 1), tl_3), hk_3, (hJ_3 rfl)⟩, hm, ⟨rfl, trivial⟩, ⟨rfl, rfl, trivial⟩, [_], rfl⟩
  · replace hm := cond_f hc1 hm
    refine g_exit ?_
    exact retKn (ret_none (ms' := tl_2) (drop := []) rfl (List.Perm.refl _)) (.inl (yield_end hm hk_2 hJ_2 _))
theorem w_tokens {p0 : (List UInt8)} :
    Fn0 Try.prog 66 [.str p0] (.clo (.func 102) [] [.ref (.str p0)]) := by
  refine fn_intro Try.func66 rfl Try.ntmps66 rfl fun H0 fr w0 => ?_
  refine g_seq ?_
  refine g_region ?_
  refine go_p rfl rfl rfl (o_box rfl rfl) ?_
  refine go_p rfl rfl rfl (o_assign rfl) ?_
  refine go_nil ?_
  refine g_seq ?_
  refine g_region ?_
  refine go_p rfl rfl rfl (o_makeFunc rfl rfl) ?_
  refine go_p rfl rfl rfl (o_assign rfl) ?_
  refine go_nil ?_
  refine g_ret ?_
  exact retK (ret_one' rfl (ret_tmp rfl) (perm_drop _)) (by rfl) -- ret1 
structure LexReader where
  l : (List ApiToken)
  end_ : Int
def LexReader.d (x : LexReader) : D := .agg [.list 4 ApiToken.d x.l, .i64 x.end_]
theorem fi_92_0 : FieldIs Try.prog 92 0 0 1 false := ⟨⟨_, _, Try.runUnderlying92, rfl, rfl, Try.sizeOf23, by decide, Try.isAgg23⟩⟩
theorem fi_92_1 : FieldIs Try.prog 92 1 1 1 false := ⟨⟨_, _, Try.runUnderlying92, rfl, rfl, Try.sizeOf3, by decide, Try.isAgg3⟩⟩
def m_rd_Peek (r1 : LexReader) : Option ApiToken :=
  bif (decide ((r1.l.length : Int) = 0)) then
    some (⟨0, ([] : List UInt8), 0, r1.end_⟩ : ApiToken)
  else
    (idx r1.l 0).bind fun x1 =>
    some (⟨x1.kind, x1.s, x1.n_, x1.pos⟩ : ApiToken)
theorem w_rd_Peek {r1 : LexReader} {r_1 : ApiToken} {b_q0 : Nat} (hm : m_rd_Peek r1 = some r_1) : Go.V.Fn Try.prog 19 [.v (.pointer (some ⟨b_q0, 0, none⟩))] [box b_q0 92 [.list 4 ApiToken.d r1.l, .i64 r1.end_]] (fun d ms' => d = ApiToken.d r_1 ∧ ms' = [box b_q0 92 [.list 4 ApiToken.d r1.l, .i64 r1.end_]]) := by
  unfold m_rd_Peek at hm
  refine fn_intro Try.func19 rfl Try.ntmps19 rfl fun H0 fr w0 => ?_
  refine g_seq ?_
  refine g_region ?_
  refine go_op rfl rfl rfl (o_alloc_own Try.zeroValue28 (cs := [.i64 0, .str ([] : List UInt8), .i64 0, .i64 0]) rfl) ?_
  rintro _ _ ⟨b1, rfl, rfl⟩
  refine go_nil ?_
  refine g_seq ?_
  refine g_block ?_
  refine g_seq ?_
  refine g_region ?_
  refine go_p rfl rfl rfl (o_move rfl) ?_
  refine go_p rfl rfl rfl (o_eqnil Try.runUnderlying31 rfl nilP_ptr rfl) ?_
  refine go_p rfl rfl rfl (o_assign rfl) ?_
  refine go_nil ?_
  refine g_cond_false rfl rfl ?_
  refine g_seq ?_
  refine g_region ?_
  refine go_p rfl rfl rfl (o_move rfl) ?_
  refine go_p rfl rfl rfl (o_nilCheck_box rfl) ?_
  refine go_p rfl rfl rfl (o_fieldAddr_box fi_92_0 rfl) ?_
  refine go_p rfl rfl rfl (o_load_box 1 Try.isAgg23 rfl rfl rfl rfl) ?_
  refine go_p rfl rfl rfl (o_len Try.runUnderlying23 rfl) ?_
  refine go_p rfl rfl rfl (o_cmp rfl rfl rfl) ?_
  refine go_p rfl rfl rfl (o_assign rfl) ?_
  refine go_nil ?_
  refine g_cond rfl (fun hc1 => ?_) (fun hc1 => ?_)
  · replace hm := cond_t hc1 hm
    refine g_seq ?_
    refine g_region ?_
    refine go_p rfl rfl rfl (o_move rfl) ?_
    refine go_p rfl rfl rfl (o_nilCheck_box rfl) ?_
    refine go_p rfl rfl rfl (o_fieldAddr_box fi_92_1 rfl) ?_
    refine go_p rfl rfl rfl (o_load_box 1 Try.isAgg3 rfl rfl rfl rfl) ?_
    refine go_p rfl rfl rfl (o_build (zs := [.v (.int .i64 0), .str [], .v (.int .i64 0), .v (.int .i64 0)]) Try.runUnderlying28 Try.zeroValue28 (pl_28 _ Try.runUnderlying28) rfl rfl rfl rfl) ?_
    refine go_u rfl rfl (o_store_box 0 Try.sizeOf28 rfl rfl rfl rfl rfl rfl rfl rfl (Nat.le_of_ble_eq_true rfl)) ?_
    rintro _ _ rfl
    refine go_ms (ms' := [box b1 28 [_, _, _, _], box b_q0 92 [_, _]]) rfl ?_
    refine go_nil ?_
    refine g_ret ?_
    obtain rfl := some_eq hm
    exact retK (ret_one' rfl (ret_cell 0 rfl rfl rfl Try.isAgg28 Try.sizeOf28 rfl) (permA 1 rfl permN)) ⟨rfl, rfl⟩
  · replace hm := cond_f hc1 hm
    refine g_skip ?_
    refine g_seq ?_
    refine g_region ?_
    refine go_p rfl rfl rfl (o_move rfl) ?_
    refine go_p rfl rfl rfl (o_nilCheck_box rfl) ?_
    refine go_p rfl rfl rfl (o_fieldAddr_box fi_92_0 rfl) ?_
    refine go_p rfl rfl rfl (o_load_box 1 Try.isAgg23 rfl rfl rfl rfl) ?_
    obtain ⟨x1, hx1, hm⟩ := bind_some hm
    refine go_p rfl rfl rfl (o_indexAddr_m Try.runUnderlying23 Try.sizeOf28 rfl rfl hx1) ?_
    refine go_p rfl rfl rfl (o_load_agg Try.isAgg28 Try.sizeOf28 rfl rfl) ?_
    refine go_u rfl rfl (o_store_box 0 Try.sizeOf28 rfl rfl rfl rfl rfl rfl rfl rfl (Nat.le_of_ble_eq_true rfl)) ?_
    rintro _ _ rfl
    refine go_ms (ms' := [box b1 28 [_, _, _, _], box b_q0 92 [_, _]]) rfl ?_
    refine go_nil ?_
    refine g_ret ?_
    obtain rfl := some_eq hm
    exact retK (ret_one' rfl (ret_cell 0 rfl rfl rfl Try.isAgg28 Try.sizeOf28 rfl) (permA 1 rfl permN)) ⟨rfl, rfl⟩
def m_rd_PeekN  : Option ApiToken :=
  some (⟨0, ([] : List UInt8), 0, 0⟩ : ApiToken)
theorem w_rd_PeekN  {r_1 : ApiToken} (hm : m_rd_PeekN = some r_1) : Fn0 Try.prog 19 [.v (.pointer none)] (ApiToken.d r_1) := by
  unfold m_rd_PeekN at hm
  refine fn_intro Try.func19 rfl Try.ntmps19 rfl fun H0 fr w0 => ?_
  refine g_seq ?_
  refine g_region ?_
  refine go_op rfl rfl rfl (o_alloc_own Try.zeroValue28 (cs := [.i64 0, .str ([] : List UInt8), .i64 0, .i64 0]) rfl) ?_
  rintro _ _ ⟨b1, rfl, rfl⟩
  refine go_nil ?_
  refine g_seq ?_
  refine g_block ?_
  refine g_seq ?_
  refine g_region ?_
  refine go_p rfl rfl rfl (o_move rfl) ?_
  refine go_p rfl rfl rfl (o_eqnil Try.runUnderlying31 rfl nilP_nil rfl) ?_
  refine go_p rfl rfl rfl (o_assign rfl) ?_
  refine go_nil ?_
  refine g_cond_true rfl rfl ?_
  refine g_seq ?_
  refine g_region ?_
  refine go_p rfl rfl rfl (o_build (zs := [.v (.int .i64 0), .str [], .v (.int .i64 0), .v (.int .i64 0)]) Try.runUnderlying28 Try.zeroValue28 (pl_28 _ Try.runUnderlying28) rfl rfl rfl rfl) ?_
  refine go_u rfl rfl (o_store_box 0 Try.sizeOf28 rfl rfl rfl rfl rfl rfl rfl rfl (Nat.le_of_ble_eq_true rfl)) ?_
  rintro _ _ rfl
  refine go_ms (ms' := [box b1 28 [_, _, _, _]]) rfl ?_
  refine go_nil ?_
  refine g_ret ?_
  exact retK (ret_one' rfl (ret_cell 0 rfl rfl rfl Try.isAgg28 Try.sizeOf28 rfl) (perm_drop _)) (congrArg (fun (p : ApiToken) => (ApiToken.d p : D)) (some_eq hm))
def m_rd_Done (r1 : LexReader) : Option Bool :=
  some (decide ((r1.l.length : Int) = 0))
theorem w_rd_Done {r1 : LexReader} {r_1 : Bool} {b_q0 : Nat} (hm : m_rd_Done r1 = some r_1) : Go.V.Fn Try.prog 23 [.v (.pointer (some ⟨b_q0, 0, none⟩))] [box b_q0 92 [.list 4 ApiToken.d r1.l, .i64 r1.end_]] (fun d ms' => d = .bool r_1 ∧ ms' = [box b_q0 92 [.list 4 ApiToken.d r1.l, .i64 r1.end_]]) := by
  unfold m_rd_Done at hm
  refine fn_intro Try.func23 rfl Try.ntmps23 rfl fun H0 fr w0 => ?_
  refine g_seq ?_
  refine g_region ?_
  refine go_p rfl rfl rfl (o_assign rfl) ?_
  refine go_nil ?_
  refine g_seq ?_
  refine g_region ?_
  refine go_p rfl rfl rfl (o_move rfl) ?_
  refine go_p rfl rfl rfl (o_eqnil Try.runUnderlying31 rfl nilP_ptr rfl) ?_
  refine go_p rfl rfl rfl (o_move rfl) ?_
  refine go_wantp rfl rfl rfl rfl rfl rfl (o_move rfl) ?_
  refine go_wantp rfl rfl rfl rfl rfl rfl (o_nilCheck_box rfl) ?_
  refine go_wantp rfl rfl rfl rfl rfl rfl (o_fieldAddr_box fi_92_0 rfl) ?_
  refine go_wantp rfl rfl rfl rfl rfl rfl (o_load_box 0 Try.isAgg23 rfl rfl rfl rfl) ?_
  refine go_wantp rfl rfl rfl rfl rfl rfl (o_len Try.runUnderlying23 rfl) ?_
  refine go_wantp rfl rfl rfl rfl rfl rfl (o_cmp rfl rfl rfl) ?_
  refine go_p rfl rfl rfl (o_pickF rfl rfl rfl) ?_
  refine go_p rfl rfl rfl (o_assign rfl) ?_
  refine go_nil ?_
  refine g_ret ?_
  obtain rfl := some_eq hm
  exact retK (ret_one' rfl (ret_tmp rfl) (permA 0 rfl permN)) ⟨rfl, rfl⟩
def m_rd_DoneN  : Option Bool :=
  some true
theorem w_rd_DoneN  {r_1 : Bool} (hm : m_rd_DoneN = some r_1) : Fn0 Try.prog 23 [.v (.pointer none)] (.bool r_1) := by
  unfold m_rd_DoneN at hm
  refine fn_intro Try.func23 rfl Try.ntmps23 rfl fun H0 fr w0 => ?_
  refine g_seq ?_
  refine g_region ?_
  refine go_p rfl rfl rfl (o_assign rfl) ?_
  refine go_nil ?_
  refine g_seq ?_
  refine g_region ?_
  refine go_p rfl rfl rfl (o_move rfl) ?_
  refine go_p rfl rfl rfl (o_eqnil Try.runUnderlying31 rfl nilP_nil rfl) ?_
  refine go_p rfl rfl rfl (o_move rfl) ?_
  refine go_skip rfl rfl rfl rfl rfl rfl ?_
  refine go_skip rfl rfl rfl rfl rfl rfl ?_
  refine go_skip rfl rfl rfl rfl rfl rfl ?_
  refine go_skip rfl rfl rfl rfl rfl rfl ?_
  refine go_skip rfl rfl rfl rfl rfl rfl ?_
  refine go_skip rfl rfl rfl rfl rfl rfl ?_
  refine go_p rfl rfl rfl (o_pickT rfl rfl rfl) ?_
  refine go_p rfl rfl rfl (o_assign rfl) ?_
  refine go_nil ?_
  refine g_ret ?_
  exact retK (ret_one' rfl (ret_tmp rfl) (perm_drop _)) (congrArg (fun (p : Bool) => (.bool p : D)) (some_eq hm))
def m_rd_Next (r1 : LexReader) : Option (ApiToken × LexReader) :=
  (m_rd_Peek (⟨r1.l, r1.end_⟩ : LexReader)).bind fun x1 =>
  (m_rd_Done (⟨r1.l, r1.end_⟩ : LexReader)).bind fun x2 =>
  bif (!x2) then
    (sli r1.l 1 (r1.l.length : Int)).bind fun l1 =>
    some ((⟨x1.kind, x1.s, x1.n_, x1.pos⟩ : ApiToken), (⟨l1, r1.end_⟩ : LexReader))
  else
    some ((⟨x1.kind, x1.s, x1.n_, x1.pos⟩ : ApiToken), (⟨r1.l, r1.end_⟩ : LexReader))
theorem w_rd_Next {r1 : LexReader} {r_1 : ApiToken} {s_1 : LexReader} {b_q0 : Nat} (hm : m_rd_Next r1 = some (r_1, s_1)) : Go.V.Fn Try.prog 20 [.v (.pointer (some ⟨b_q0, 0, none⟩))] [box b_q0 92 [.list 4 ApiToken.d r1.l, .i64 r1.end_]] (fun d ms' => d = ApiToken.d r_1 ∧ ms' = [box b_q0 92 [.list 4 ApiToken.d s_1.l, .i64 s_1.end_]]) := by
  unfold m_rd_Next at hm
  refine fn_intro Try.func20 rfl Try.ntmps20 rfl fun H0 fr w0 => ?_
  refine g_seq ?_
  refine g_region ?_
  refine go_op rfl rfl rfl (o_alloc_own Try.zeroValue28 (cs := [.i64 0, .str ([] : List UInt8), .i64 0, .i64 0]) rfl) ?_
  rintro _ _ ⟨b1, rfl, rfl⟩
  refine go_nil ?_
  refine g_seq ?_
  refine g_region ?_
  refine go_p rfl rfl rfl (o_move rfl) ?_
  obtain ⟨x1, hx1, hm⟩ := bind_some hm
  refine go_op rfl rfl rfl (o_call_own [1] Try.call19 rfl rfl (getL_c rfl getL_n) (w_rd_Peek hx1) (by rintro _ _ ⟨rfl, rfl⟩; rfl)) ?_
  rintro _ _ ⟨_, ⟨rfl, rfl⟩, rfl⟩
  refine go_ms (ms' := [box b1 28 [_, _, _, _], box b_q0 92 [_, _]]) rfl ?_
  refine go_op rfl rfl rfl (o_alloc_own Try.zeroValue28 (cs := [.i64 0, .str ([] : List UInt8), .i64 0, .i64 0]) rfl) ?_
  rintro _ _ ⟨b2, rfl, rfl⟩
  refine go_u rfl rfl (o_store_box 0 Try.sizeOf28 rfl rfl rfl rfl rfl rfl rfl rfl (Nat.le_of_ble_eq_true rfl)) ?_
  rintro _ _ rfl
  refine go_ms (ms' := [box b2 28 [_, _, _, _], box b1 28 [_, _, _, _], box b_q0 92 [_, _]]) rfl ?_
  refine go_nil ?_
  refine g_seq ?_
  refine g_seq ?_
  refine g_region ?_
  refine go_p rfl rfl rfl (o_move rfl) ?_
  obtain ⟨x2, hx2, hm⟩ := bind_some hm
  refine go_op rfl rfl rfl (o_call_own [2] Try.call23 rfl rfl (getL_c rfl getL_n) (w_rd_Done hx2) (by rintro _ _ ⟨rfl, rfl⟩; rfl)) ?_
  rintro _ _ ⟨_, ⟨rfl, rfl⟩, rfl⟩
  refine go_ms (ms' := [box b2 28 [_, _, _, _], box b1 28 [_, _, _, _], box b_q0 92 [_, _]]) rfl ?_
  refine go_p rfl rfl rfl (o_not rfl) ?_
  refine go_nil ?_
  refine g_cond rfl (fun hc1 => ?_) (fun hc1 => ?_)
  · replace hm := cond_t hc1 hm
    refine g_region ?_
    refine go_p rfl rfl rfl (o_move rfl) ?_
    refine go_p rfl rfl rfl (o_move rfl) ?_
    refine go_p rfl rfl rfl (o_nilCheck_box rfl) ?_
    refine go_p rfl rfl rfl (o_fieldAddr_box fi_92_0 rfl) ?_
    refine go_p rfl rfl rfl (o_load_box 2 Try.isAgg23 rfl rfl rfl rfl) ?_
    obtain ⟨l1, hx3, hm⟩ := bind_some hm
    refine go_p rfl rfl rfl (o_slice_m Try.runUnderlying23 Try.sizeOf28 rfl ⟨_, rfl⟩ rfl hx3) ?_
    refine go_p rfl rfl rfl (o_nilCheck_box rfl) ?_
    refine go_p rfl rfl rfl (o_fieldAddr_box fi_92_0 rfl) ?_
    refine go_u rfl rfl (o_store_box 2 Try.sizeOf23 rfl rfl rfl rfl rfl rfl rfl rfl (Nat.le_of_ble_eq_true rfl)) ?_
    rintro _ _ rfl
    refine go_ms (ms' := [box b2 28 [_, _, _, _], box b1 28 [_, _, _, _], box b_q0 92 [_, _]]) rfl ?_
    refine go_nil ?_
    refine g_seq ?_
    refine g_region ?_
    refine go_p rfl rfl rfl (o_load_box_agg 0 Try.isAgg28 Try.sizeOf28 rfl rfl rfl rfl (Nat.le_of_ble_eq_true rfl)) ?_
    refine go_u rfl rfl (o_store_box 1 Try.sizeOf28 rfl rfl rfl rfl rfl rfl rfl rfl (Nat.le_of_ble_eq_true rfl)) ?_
    rintro _ _ rfl
    refine go_ms (ms' := [box b2 28 [_, _, _, _], box b1 28 [_, _, _, _], box b_q0 92 [_, _]]) rfl ?_
    refine go_nil ?_
    refine g_ret ?_
    have hq1 := some_eq hm
    obtain ⟨rfl, rfl⟩ := Prod.mk.inj hq1
    exact retK (ret_one' rfl (ret_cell 1 rfl rfl rfl Try.isAgg28 Try.sizeOf28 rfl) (permA 2 rfl permN)) ⟨rfl, rfl⟩
  · replace hm := cond_f hc1 hm
    refine g_skip ?_
    refine g_seq ?_
    refine g_region ?_
    refine go_p rfl rfl rfl (o_load_box_agg 0 Try.isAgg28 Try.sizeOf28 rfl rfl rfl rfl (Nat.le_of_ble_eq_true rfl)) ?_
    refine go_u rfl rfl (o_store_box 1 Try.sizeOf28 rfl rfl rfl rfl rfl rfl rfl rfl (Nat.le_of_ble_eq_true rfl)) ?_
    rintro _ _ rfl
    refine go_ms (ms' := [box b2 28 [_, _, _, _], box b1 28 [_, _, _, _], box b_q0 92 [_, _]]) rfl ?_
    refine go_nil ?_
    refine g_ret ?_
    have hq1 := some_eq hm
    obtain ⟨rfl, rfl⟩ := Prod.mk.inj hq1
    exact retK (ret_one' rfl (ret_cell 1 rfl rfl rfl Try.isAgg28 Try.sizeOf28 rfl) (permA 2 rfl permN)) ⟨rfl, rfl⟩
def m_rd_NextN  : Option ApiToken :=
  (m_rd_PeekN).bind fun x1 =>
  (m_rd_DoneN).bind fun x2 =>
  bif (!x2) then
    none
  else
    some (⟨x1.kind, x1.s, x1.n_, x1.pos⟩ : ApiToken)
theorem w_rd_NextN  {r_1 : ApiToken} (hm : m_rd_NextN = some r_1) : Fn0 Try.prog 20 [.v (.pointer none)] (ApiToken.d r_1) := by
  unfold m_rd_NextN at hm
  refine fn_intro Try.func20 rfl Try.ntmps20 rfl fun H0 fr w0 => ?_
  refine g_seq ?_
  refine g_region ?_
  refine go_op rfl rfl rfl (o_alloc_own Try.zeroValue28 (cs := [.i64 0, .str ([] : List UInt8), .i64 0, .i64 0]) rfl) ?_
  rintro _ _ ⟨b1, rfl, rfl⟩
  refine go_nil ?_
  refine g_seq ?_
  refine g_region ?_
  refine go_p rfl rfl rfl (o_move rfl) ?_
  obtain ⟨x1, hx1, hm⟩ := bind_some hm
  refine go_p rfl rfl rfl (o_call0 Try.call19 rfl (w_rd_PeekN hx1)) ?_
  refine go_op rfl rfl rfl (o_alloc_own Try.zeroValue28 (cs := [.i64 0, .str ([] : List UInt8), .i64 0, .i64 0]) rfl) ?_
  rintro _ _ ⟨b2, rfl, rfl⟩
  refine go_u rfl rfl (o_store_box 0 Try.sizeOf28 rfl rfl rfl rfl rfl rfl rfl rfl (Nat.le_of_ble_eq_true rfl)) ?_
  rintro _ _ rfl
  refine go_ms (ms' := [box b2 28 [_, _, _, _], box b1 28 [_, _, _, _]]) rfl ?_
  refine go_nil ?_
  refine g_seq ?_
  refine g_seq ?_
  refine g_region ?_
  refine go_p rfl rfl rfl (o_move rfl) ?_
  obtain ⟨x2, hx2, hm⟩ := bind_some hm
  refine go_p rfl rfl rfl (o_call0 Try.call23 rfl (w_rd_DoneN hx2)) ?_
  refine go_p rfl rfl rfl (o_not rfl) ?_
  refine go_nil ?_
  refine g_cond rfl (fun hc1 => ?_) (fun hc1 => ?_)
  · replace hm := cond_t hc1 hm
    refine g_region ?_
    refine go_p rfl rfl rfl (o_move rfl) ?_
    refine go_p rfl rfl rfl (o_move rfl) ?_
    cases hm
  · replace hm := cond_f hc1 hm
    refine g_skip ?_
    refine g_seq ?_
    refine g_region ?_
    refine go_p rfl rfl rfl (o_load_box_agg 0 Try.isAgg28 Try.sizeOf28 rfl rfl rfl rfl (Nat.le_of_ble_eq_true rfl)) ?_
    refine go_u rfl rfl (o_store_box 1 Try.sizeOf28 rfl rfl rfl rfl rfl rfl rfl rfl (Nat.le_of_ble_eq_true rfl)) ?_
    rintro _ _ rfl
    refine go_ms (ms' := [box b2 28 [_, _, _, _], box b1 28 [_, _, _, _]]) rfl ?_
    refine go_nil ?_
    refine g_ret ?_
    exact retK (ret_one' rfl (ret_cell 1 rfl rfl rfl Try.isAgg28 Try.sizeOf28 rfl) (perm_drop _)) (congrArg (fun (p : ApiToken) => (ApiToken.d p : D)) (some_eq hm))
theorem fi_28_0 : FieldIs Try.prog 28 0 0 1 false := ⟨⟨_, _, Try.runUnderlying28, rfl, rfl, Try.sizeOf3, by decide, Try.isAgg3⟩⟩
theorem fi_28_1 : FieldIs Try.prog 28 1 1 1 false := ⟨⟨_, _, Try.runUnderlying28, rfl, rfl, Try.sizeOf9, by decide, Try.isAgg9⟩⟩
def m_rd_IsN (kind1 : Int) (s1 : (List UInt8)) : Option Bool :=
  (m_rd_PeekN).bind fun x1 =>
  (m_rd_DoneN).bind fun x2 =>
  some ((((!x2) && (decide (x1.kind = kind1))) && (!decide (kind1 = 0))) && ((decide ((x1.s : List UInt8) = s1)) || (decide (kind1 = 4))))
theorem w_rd_IsN {kind1 : Int} {s1 : (List UInt8)} {r_1 : Bool} (hm : m_rd_IsN kind1 s1 = some r_1) : Fn0 Try.prog 21 [.v (.pointer none), .i64 kind1, .str s1] (.bool r_1) := by
  unfold m_rd_IsN at hm
  refine fn_intro Try.func21 rfl Try.ntmps21 rfl fun H0 fr w0 => ?_
  refine g_seq ?_
  refine g_region ?_
  refine go_p rfl rfl rfl (o_assign rfl) ?_
  refine go_nil ?_
  refine g_seq ?_
  refine g_region ?_
  refine go_p rfl rfl rfl (o_move rfl) ?_
  obtain ⟨x1, hx1, hm⟩ := bind_some hm
  refine go_p rfl rfl rfl (o_call0 Try.call19 rfl (w_rd_PeekN hx1)) ?_
  refine go_op rfl rfl rfl (o_alloc_own Try.zeroValue28 (cs := [.i64 0, .str ([] : List UInt8), .i64 0, .i64 0]) rfl) ?_
  rintro _ _ ⟨b1, rfl, rfl⟩
  refine go_u rfl rfl (o_store_box 0 Try.sizeOf28 rfl rfl rfl rfl rfl rfl rfl rfl (Nat.le_of_ble_eq_true rfl)) ?_
  rintro _ _ rfl
  refine go_ms (ms' := [box b1 28 [_, _, _, _]]) rfl ?_
  refine go_nil ?_
  refine g_seq ?_
  refine g_region ?_
  refine go_p rfl rfl rfl (o_move rfl) ?_
  obtain ⟨x2, hx2, hm⟩ := bind_some hm
  refine go_p rfl rfl rfl (o_call0 Try.call23 rfl (w_rd_DoneN hx2)) ?_
  refine go_p rfl rfl rfl (o_not rfl) ?_
  refine go_p rfl rfl rfl (o_move rfl) ?_
  apply go_and [(1, _), (2, _), (7, _)] 5 18 (t := 13) ⟨rfl, rfl, rfl, trivial⟩ rfl
  · intro hg_1 hk1
    refine go_wantp rfl rfl rfl hg_1 rfl rfl (o_fieldAddr_box fi_28_0 rfl) ?_
    refine go_wantp rfl rfl rfl hg_1 rfl rfl (o_load_box 0 Try.isAgg3 rfl rfl rfl rfl) ?_
    refine go_wantp rfl rfl rfl hg_1 rfl rfl (o_move rfl) ?_
    refine go_wantp rfl rfl rfl hg_1 rfl rfl (o_cmp rfl rfl rfl) ?_
    refine go_p rfl rfl rfl (o_pickT rfl hg_1 rfl) ?_
    exact go_meet hk1 (rfl) ⟨rfl, rfl, rfl, trivial⟩
  · intro hg_1 hk1
    refine go_skip rfl rfl rfl hg_1 rfl rfl ?_
    refine go_skip rfl rfl rfl hg_1 rfl rfl ?_
    refine go_skip rfl rfl rfl hg_1 rfl rfl ?_
    refine go_skip rfl rfl rfl hg_1 rfl rfl ?_
    refine go_p rfl rfl rfl (o_pickF rfl hg_1 rfl) ?_
    exact go_meet hk1 (rfl) ⟨rfl, rfl, rfl, trivial⟩
  refine go_p rfl rfl rfl (o_move rfl) ?_
  apply go_and [(1, _), (2, _), (7, _)] 3 22 (t := 19) ⟨rfl, rfl, rfl, trivial⟩ rfl
  · intro hg_2 hk2
    refine go_wantp rfl rfl rfl hg_2 rfl rfl (o_move rfl) ?_
    refine go_wantp rfl rfl rfl hg_2 rfl rfl (o_cmp rfl rfl rfl) ?_
    refine go_p rfl rfl rfl (o_pickT rfl hg_2 rfl) ?_
    exact go_meet hk2 (rfl) ⟨rfl, rfl, rfl, trivial⟩
  · intro hg_2 hk2
    refine go_skip rfl rfl rfl hg_2 rfl rfl ?_
    refine go_skip rfl rfl rfl hg_2 rfl rfl ?_
    refine go_p rfl rfl rfl (o_pickF rfl hg_2 rfl) ?_
    exact go_meet hk2 (rfl) ⟨rfl, rfl, rfl, trivial⟩
  refine go_p rfl rfl rfl (o_move rfl) ?_
  apply go_and [] 9 32 (t := 23) trivial rfl
  · intro hg_3 hk3
    refine go_wantp rfl rfl rfl hg_3 rfl rfl (o_fieldAddr_box fi_28_1 rfl) ?_
    refine go_wantp rfl rfl rfl hg_3 rfl rfl (o_load_box 0 Try.isAgg9 rfl rfl rfl rfl) ?_
    refine go_wantp rfl rfl rfl hg_3 rfl rfl (o_move rfl) ?_
    refine go_wantp rfl rfl rfl hg_3 rfl rfl (o_cmps rfl rfl rfl) ?_
    refine go_wantp rfl rfl rfl hg_3 rfl rfl (o_move rfl) ?_
    apply go_or [(23, _)] 3 31 (t := 28) ⟨rfl, trivial⟩ rfl
    · intro hg_4 hk4
      refine go_wantp rfl rfl rfl hg_4 rfl rfl (o_move rfl) ?_
      refine go_wantp rfl rfl rfl hg_4 rfl rfl (o_cmp rfl rfl rfl) ?_
      refine go_wantp rfl rfl rfl hg_3 rfl rfl (o_pickF rfl hg_4 rfl) ?_
      exact go_meet hk4 (rfl) ⟨rfl, trivial⟩
    · intro hg_4 hk4
      refine go_skip rfl rfl rfl hg_4 rfl rfl ?_
      refine go_skip rfl rfl rfl hg_4 rfl rfl ?_
      refine go_wantp rfl rfl rfl hg_3 rfl rfl (o_pickT rfl hg_4 rfl) ?_
      exact go_meet hk4 (rfl) ⟨rfl, trivial⟩
    refine go_p rfl rfl rfl (o_pickT rfl hg_3 rfl) ?_
    exact go_meet hk3 (rfl) trivial
  · intro hg_3 hk3
    refine go_skip rfl rfl rfl hg_3 rfl rfl ?_
    refine go_skip rfl rfl rfl hg_3 rfl rfl ?_
    refine go_skip rfl rfl rfl hg_3 rfl rfl ?_
    refine go_skip rfl rfl rfl hg_3 rfl rfl ?_
    refine go_skip rfl rfl rfl hg_3 rfl rfl ?_
    refine go_skipu rfl rfl rfl rfl rfl ?_
    refine go_skipu rfl rfl rfl rfl rfl ?_
    refine go_skip rfl rfl rfl hg_3 rfl rfl ?_
    refine go_p rfl rfl rfl (o_pickF rfl hg_3 rfl) ?_
    exact go_meet hk3 (rfl) trivial
  refine go_p rfl rfl rfl (o_assign rfl) ?_
  refine go_nil ?_
  refine g_ret ?_
  exact retK (ret_one' rfl (ret_tmp rfl) (perm_drop _)) (congrArg (fun (p : Bool) => (.bool p : D)) (some_eq hm))
def m_rd_TakeN (kind1 : Int) (s1 : (List UInt8)) : Option Bool :=
  (m_rd_IsN kind1 s1).bind fun x1 =>
  bif x1 then
    (m_rd_NextN).bind fun x2 =>
    some x1
  else
    some x1
theorem w_rd_TakeN {kind1 : Int} {s1 : (List UInt8)} {r_1 : Bool} (hm : m_rd_TakeN kind1 s1 = some r_1) : Fn0 Try.prog 22 [.v (.pointer none), .i64 kind1, .str s1] (.bool r_1) := by
  unfold m_rd_TakeN at hm
  refine fn_intro Try.func22 rfl Try.ntmps22 rfl fun H0 fr w0 => ?_
  refine g_seq ?_
  refine g_region ?_
  refine go_p rfl rfl rfl (o_assign rfl) ?_
  refine go_nil ?_
  refine g_seq ?_
  refine g_region ?_
  refine go_p rfl rfl rfl (o_move rfl) ?_
  refine go_p rfl rfl rfl (o_move rfl) ?_
  refine go_p rfl rfl rfl (o_move rfl) ?_
  obtain ⟨x1, hx1, hm⟩ := bind_some hm
  refine go_p rfl rfl rfl (o_call0 Try.call21 rfl (w_rd_IsN hx1)) ?_
  refine go_p rfl rfl rfl (o_assign rfl) ?_
  refine go_nil ?_
  refine g_seq ?_
  refine g_seq ?_
  refine g_region ?_
  refine go_p rfl rfl rfl (o_move rfl) ?_
  refine go_nil ?_
  refine g_cond rfl (fun hc1 => ?_) (fun hc1 => ?_)
  · replace hm := cond_t hc1 hm
    refine g_region ?_
    refine go_p rfl rfl rfl (o_move rfl) ?_
    obtain ⟨x2, hx2, hm⟩ := bind_some hm
    refine go_p rfl rfl rfl (o_call0 Try.call20 rfl (w_rd_NextN hx2)) ?_
    refine go_nil ?_
    refine g_seq ?_
    refine g_region ?_
    refine go_p rfl rfl rfl (o_move rfl) ?_
    refine go_p rfl rfl rfl (o_assign rfl) ?_
    refine go_nil ?_
    refine g_ret ?_
    exact retK (ret_one' rfl (ret_tmp rfl) (perm_drop _)) (congrArg (fun (p : Bool) => (.bool p : D)) (some_eq hm))
  · replace hm := cond_f hc1 hm
    refine g_skip ?_
    refine g_seq ?_
    refine g_region ?_
    refine go_p rfl rfl rfl (o_move rfl) ?_
    refine go_p rfl rfl rfl (o_assign rfl) ?_
    refine go_nil ?_
    refine g_ret ?_
    exact retK (ret_one' rfl (ret_tmp rfl) (perm_drop _)) (congrArg (fun (p : Bool) => (.bool p : D)) (some_eq hm))
theorem pl_92 : ∀ fs, (∀ w, (underlying 92).run Try.prog w = .ok (.struct fs) w) → placesOf Try.prog fs [(0, 1), (1, 1)] := by
  intro fs h w
  have := (h w).symm.trans (Try.runUnderlying92 w)
  simp only [Result.ok.injEq, TypeDesc.struct.injEq, and_true] at this
  subst this
  simp [Try.sizeOf23, Try.sizeOf3, Sem.run]
def m_rd_New (l1 : (List ApiToken)) (end1 : Int) : Option LexReader :=
  grd ((0 + l1.length) * 40 ≤ 140737488355328) <|
  some (⟨([] ++ l1), end1⟩ : LexReader)
theorem w_rd_New {l1 : (List ApiToken)} {end1 : Int} {s_1 : LexReader} (hm : m_rd_New l1 end1 = some s_1) : Go.V.Fn Try.prog 24 [.list 4 ApiToken.d l1, .i64 end1] [] (fun d ms' => ∃ b_s_1, d = .v (.pointer (some ⟨b_s_1, 0, none⟩)) ∧ ms' = [box b_s_1 92 [.list 4 ApiToken.d s_1.l, .i64 s_1.end_]]) := by
  unfold m_rd_New at hm
  refine fn_intro Try.func24 rfl Try.ntmps24 rfl fun H0 fr w0 => ?_
  refine g_seq ?_
  refine g_region ?_
  refine go_p rfl rfl rfl (o_assign rfl) ?_
  refine go_nil ?_
  refine g_seq ?_
  refine g_region ?_
  refine go_p rfl rfl rfl (o_move rfl) ?_
  refine go_conv (refines_newrow (T := 28) (sz := 4) (f := ApiToken.d)) ?_
  obtain ⟨hg1, hm⟩ := grd_some hm
  refine go_op rfl rfl rfl (o_append (a := _) 0 Try.underlying23 Try.type28 rfl rfl rfl rfl rfl rfl rfl (fun _ => rfl) (fun _ => rfl) hg1 (app_len hg1 rfl)) ?_
  rintro _ _ ⟨a_r1, cap_r1, rfl, rfl⟩
  refine go_ms (ms' := [_]) rfl ?_
  refine go_p rfl rfl rfl (o_move rfl) ?_
  refine go_p rfl rfl rfl (.view (peekE (i := 6) 0 rfl rfl rfl) (o_build (zs := [.list 4 ApiToken.d [], .v (.int .i64 0)]) Try.runUnderlying92 Try.zeroValue92 (pl_92 _ Try.runUnderlying92) rfl rfl rfl rfl)) ?_
  refine go_op rfl rfl rfl (o_box_own rfl rfl rfl) ?_
  rintro _ _ ⟨b2, rfl, rfl⟩
  refine go_p rfl rfl rfl (o_assign rfl) ?_
  refine go_nil ?_
  refine g_ret ?_
  obtain rfl := some_eq hm
  exact retK (ret_one' rfl (ret_tmp rfl) (permA 0 rfl permN)) ⟨_, rfl, rfl⟩
def m_syntagmalaw04_short (s1 : (List UInt8)) : Option (List UInt8) :=
  (sli s1 0 (if 600 < (s1.length : Int) then 600 else (s1.length : Int))).bind fun s2 =>
  some s2
theorem w_syntagmalaw04_short {s1 : (List UInt8)} {r_1 : (List UInt8)} (hm : m_syntagmalaw04_short s1 = some r_1) : Fn0 Try.prog 15 [.str s1] (.str r_1) := by
  unfold m_syntagmalaw04_short at hm
  refine fn_intro Try.func15 rfl Try.ntmps15 rfl fun H0 fr w0 => ?_
  refine g_seq ?_
  refine g_region ?_
  refine go_p rfl rfl rfl (o_assign rfl) ?_
  refine go_nil ?_
  refine g_seq ?_
  refine g_region ?_
  refine go_p rfl rfl rfl (o_move rfl) ?_
  refine go_p rfl rfl rfl (o_move rfl) ?_
  refine go_p rfl rfl rfl (o_len_str Try.runUnderlying9 rfl) ?_
  refine go_p rfl rfl rfl (o_min rfl rfl) ?_
  obtain ⟨s2, hx1, hm⟩ := bind_some hm
  refine go_p rfl rfl rfl (o_slice_str_m Try.runUnderlying9 rfl rfl ⟨_, rfl⟩ hx1) ?_
  refine go_p rfl rfl rfl (o_assign rfl) ?_
  refine go_nil ?_
  refine g_ret ?_
  exact retK (ret_one' rfl (ret_tmp rfl) (perm_drop _)) (congrArg (fun (p : (List UInt8)) => (.str p : D)) (some_eq hm))
theorem fi_88_0 : FieldIs Try.prog 88 0 0 4 true := ⟨⟨_, _, Try.runUnderlying88, rfl, rfl, Try.sizeOf28, by decide, Try.isAgg28⟩⟩
theorem fi_28_3 : FieldIs Try.prog 28 3 3 1 false := ⟨⟨_, _, Try.runUnderlying28, rfl, rfl, Try.sizeOf3, by decide, Try.isAgg3⟩⟩
def m_lex_All_r1  : List (Int × LexFound) → (List ApiToken) → Option (Out ((List ApiToken) × Int × Int) (List ApiToken))
  | [], l2 =>
    some (Out.go (l2))
  | (x1, x2) :: rr, l2 =>
    bif (!decide (x2.e_ = 0)) then
      some (Out.ret (([] : List ApiToken), x1, x2.e_))
    else
      grd ((l2.length + ([(⟨x2.t.kind, x2.t.s, x2.t.n_, x1⟩ : ApiToken)] : List _).length) * 40 ≤ 140737488355328) <|
      m_lex_All_r1 rr (l2 ++ [(⟨x2.t.kind, x2.t.s, x2.t.n_, x1⟩ : ApiToken)])
def m_lex_All (s1 : (List UInt8)) : Option ((List ApiToken) × Int × Int) :=
  (((m_tokens s1).bind fun xs1 =>
  m_lex_All_r1 xs1 [] : Option (Out ((List ApiToken) × Int × Int) (List ApiToken)))).bind (fun oo => oo.on (fun r1 => some r1) (fun l1 =>
  some (l1, (s1.length : Int), 0)))
theorem w_lex_All {s1 : (List UInt8)} {r_1 : (List ApiToken)} {r_2 : Int} {r_3 : Int} (hm : m_lex_All s1 = some (r_1, r_2, r_3)) : Fn0 Try.prog 16 [.str s1] (.tup [.list 4 ApiToken.d r_1, .i64 r_2, .i64 r_3]) := by
  unfold m_lex_All at hm
  refine fn_intro Try.func16 rfl Try.ntmps16 rfl fun H0 fr w0 => ?_
  refine g_seq ?_
  refine g_region ?_
  refine go_op rfl rfl rfl (o_alloc_own Try.zeroValue23 (cs := [.list 4 ApiToken.d []]) rfl) ?_
  rintro _ _ ⟨b1, rfl, rfl⟩
  refine go_op rfl rfl rfl (o_alloc_own Try.zeroValue3 (cs := [.i64 0]) rfl) ?_
  rintro _ _ ⟨b2, rfl, rfl⟩
  refine go_op rfl rfl rfl (o_alloc_own Try.zeroValue24 (cs := [.i64 0]) rfl) ?_
  rintro _ _ ⟨b3, rfl, rfl⟩
  refine go_nil ?_
  refine g_seq ?_
  refine g_region ?_
  refine go_op rfl rfl rfl (o_alloc_own Try.zeroValue23 (cs := [.v (.slice none 0 0)]) rfl) ?_
  rintro _ _ ⟨b4, rfl, rfl⟩
  refine go_conv (refines_newrow (T := 28) (sz := 4) (f := ApiToken.d)) ?_
  refine go_nil ?_
  refine g_seq ?_
  refine g_seq ?_
  refine g_region ?_
  refine go_p rfl rfl rfl (o_move rfl) ?_
  refine go_p rfl rfl rfl (o_call0 Try.call66 rfl w_tokens) ?_
  refine go_nil ?_
  obtain ⟨o_1, hj1, hm1⟩ := bind_some hm
  refine g_cut_m [(0, _), (2, _), (3, _), (4, _), (5, _)] [(2, _), (3, _), (4, _)] (fun (st : (List ApiToken)) (hid : (Option Addr × Nat)) => match st, hid with | l1, (a_r1, cap_r1) => []) (fun F (st : (List ApiToken)) (hid : (Option Addr × Nat)) => match st, hid with | l1, (a_r1, cap_r1) => [row a_r1 cap_r1 28 4 ApiToken.d l1, box b4 23 [.v (.slice a_r1 l1.length cap_r1)], (nthF F 0), (nthF F 1), (nthF F 2)]) (fun st => Out.go (st) = o_1) ⟨rfl, rfl, rfl, rfl, rfl, trivial⟩ ⟨rfl, rfl, rfl, trivial⟩ ?_ ?_
  · skip
    refine g_block ?_
    obtain ⟨xs1, hx1, hj1⟩ := bind_some hj1
    refine g_range_m (fun (p : (Int × LexFound)) => [.i64 p.1, LexFound.d p.2]) [(2, _), (3, _), (4, _)] (fun F (st : (List ApiToken)) (hid : (Option Addr × Nat)) => match st, hid with | l2, (a_r1, cap_r1) => [row a_r1 cap_r1 28 4 ApiToken.d l2, box b4 23 [.v (.slice a_r1 l2.length cap_r1)], (nthF F 0), (nthF F 1), (nthF F 2)]) (_, _) hj1 ⟨rfl, rfl, rfl, trivial⟩ rfl rfl Try.call102 (it_tokens hx1) (fun _ => rfl) rfl ?_ ?_
    · rintro H0r frr ror w0r hrr ⟨x1, x2⟩ rr l2 ⟨a_r1, cap_r1⟩ hj1
      rw [m_lex_All_r1] at hj1
      refine g_norm (ms' := [row a_r1 cap_r1 28 4 ApiToken.d l2, box b4 23 [.v (.slice a_r1 l2.length cap_r1)], _, _, _]) rfl rfl ?_
      refine g_seq ?_
      refine g_region ?_
      refine go_p rfl rfl rfl (o_assign rfl) ?_
      refine go_nil ?_
      refine g_region ?_
      refine go_op rfl rfl rfl (o_alloc_own Try.zeroValue88 (cs := [.i64 0, .str ([] : List UInt8), .i64 0, .i64 0, .i64 0, .i64 0]) rfl) ?_
      rintro _ _ ⟨b5, rfl, rfl⟩
      refine go_u rfl rfl (o_store_box 0 Try.sizeOf88 rfl rfl rfl rfl rfl rfl rfl rfl (Nat.le_of_ble_eq_true rfl)) ?_
      rintro _ _ rfl
      refine go_ms (ms' := [box b5 88 [_, _, _, _, _, _], _, box b4 23 [_], box b3 24 [_], box b2 3 [_], box b1 23 [_]]) rfl ?_
      refine go_nil ?_
      intro H0r frr ror w0r hrr
      refine g_block ?_
      refine g_seq ?_
      refine g_seq ?_
      refine g_region ?_
      refine go_p rfl rfl rfl (o_fieldAddr_box fi_88_2 rfl) ?_
      refine go_p rfl rfl rfl (o_load_box 0 Try.isAgg24 rfl rfl rfl rfl) ?_
      refine go_p rfl rfl rfl (o_cmp rfl rfl rfl) ?_
      refine go_nil ?_
      refine g_cond rfl (fun hc1 => ?_) (fun hc1 => ?_)
      · replace hj1 := cond_t hc1 hj1
        refine g_seq ?_
        refine g_draw_c [3, 4, 5] [0, 1, 2] [2] Try_mixed (by decide +kernel) (by decide +kernel) rfl ?_
        refine gde_p rfl rfl rfl rfl rfl rfl (o_move rfl) ?_
        refine gde_p rfl rfl rfl rfl rfl rfl (o_fieldAddr_box fi_88_2 rfl) ?_
        refine gde_f rfl rfl rfl rfl rfl (o_load_box 0 Try.isAgg24 rfl rfl rfl rfl) ?_
        refine gde_e rfl ?_
        refine gde_e rfl ?_
        refine gde_e rfl ?_
        refine gde_nil ?_
        refine gde2_u rfl rfl rfl (.own (o_store_box 5 Try.sizeOf23 rfl rfl rfl rfl rfl rfl rfl rfl (Nat.le_of_ble_eq_true rfl)) (heap_cell 5 0 rfl rfl (nil_enc (sz := 4) (f := ApiToken.d)) rfl rfl)) ?_
        rintro _ _ rfl
        refine ⟨⟨trivial, o_load_box 0 Try.isAgg24 rfl rfl rfl rfl⟩, ?_⟩
        refine gde2_u rfl rfl rfl (o_store_box 4 Try.sizeOf3 rfl rfl rfl rfl rfl rfl rfl rfl (Nat.le_of_ble_eq_true rfl)) ?_
        rintro _ _ rfl
        refine ⟨⟨trivial, o_load_box 0 Try.isAgg24 rfl rfl rfl rfl⟩, ?_⟩
        refine gde2_u rfl rfl rfl (o_store_box 3 Try.sizeOf24 rfl rfl rfl rfl rfl rfl rfl rfl (Nat.le_of_ble_eq_true rfl)) ?_
        rintro _ _ rfl
        refine ⟨⟨trivial, o_load_box 0 Try.isAgg24 rfl rfl rfl rfl⟩, ?_⟩
        refine gde2_nil ?_
        refine g_ret ?_
        obtain rfl := some_eq hj1
        replace hm1 := on_ret hm1
        exact retK (ret_many (ds := [_, _, _]) rfl (by decide) ⟨ret_cell1 5 rfl rfl rfl Try.isAgg23 rfl, ⟨ret_cell1 4 rfl rfl rfl Try.isAgg3 rfl, ⟨ret_cell1 3 rfl rfl rfl Try.isAgg24 rfl, rfl⟩⟩⟩ (perm_drop _)) (congrArg (fun (p : ((List ApiToken) × Int × Int)) => D.tup [.list 4 ApiToken.d p.1, .i64 p.2.1, .i64 p.2.2]) (some_eq hm1))
      · replace hj1 := cond_f hc1 hj1
        refine g_skip ?_
        refine g_seq ?_
        refine g_region ?_
        refine go_p rfl rfl rfl (o_move rfl) ?_
        refine go_p rfl rfl rfl (o_fieldAddr_box fi_88_0 rfl) ?_
        refine go_p rfl rfl rfl (o_fieldAddr_box fi_28_3 rfl) ?_
        refine go_u rfl rfl (o_store_box 0 Try.sizeOf3 rfl rfl rfl rfl rfl rfl rfl rfl (Nat.le_of_ble_eq_true rfl)) ?_
        rintro _ _ rfl
        refine go_ms (ms' := [box b5 88 [_, _, _, _, _, _], _, box b4 23 [_], box b3 24 [_], box b2 3 [_], box b1 23 [_]]) rfl ?_
        refine go_nil ?_
        refine g_region ?_
        refine go_p rfl rfl rfl (o_load_box 2 Try.isAgg23 rfl rfl rfl rfl) ?_
        refine go_p rfl rfl rfl (o_fieldAddr_box fi_88_0 rfl) ?_
        refine go_p rfl rfl rfl (o_load_box_agg 0 Try.isAgg28 Try.sizeOf28 rfl rfl rfl rfl (Nat.le_of_ble_eq_true rfl)) ?_
        refine go_p rfl rfl rfl (o_buildSlice (xs := [_]) (f := ApiToken.d) (l := [(⟨x2.t.kind, x2.t.s, x2.t.n_, x1⟩ : ApiToken)]) Try.runUnderlying23 Try.sizeOf28 Try.zeroValue28 rfl rfl rfl (fun _ => ⟨rfl, rfl, rfl⟩) rfl) ?_
        obtain ⟨hg2, hj1⟩ := grd_some hj1
        refine go_op rfl rfl rfl (o_append (a := _) 1 Try.underlying23 Try.type28 rfl rfl rfl rfl rfl rfl rfl (fun _ => rfl) (fun _ => rfl) hg2 (app_len hg2 rfl)) ?_
        rintro _ _ ⟨a_r1, cap_r1, rfl, rfl⟩
        refine go_ms (ms' := [box b5 88 [_, _, _, _, _, _], _, box b4 23 [_], box b3 24 [_], box b2 3 [_], box b1 23 [_]]) rfl ?_
        refine go_u rfl rfl (o_store_box 2 Try.sizeOf23 rfl rfl rfl rfl rfl rfl rfl rfl (Nat.le_of_ble_eq_true rfl)) ?_
        rintro _ _ rfl
        refine go_ms (ms' := [box b5 88 [_, _, _, _, _, _], _, box b4 23 [_], box b3 24 [_], box b2 3 [_], box b1 23 [_]]) rfl ?_
        refine go_nil ?_
        exact ⟨_, (_, _), hj1, [_], rfl⟩
    · rintro l2 ⟨a_r1, cap_r1⟩ hj1
      rw [m_lex_All_r1] at hj1
      refine k_norm (ms' := [row a_r1 cap_r1 28 4 ApiToken.d l2, box b4 23 [.v (.slice a_r1 l2.length cap_r1)], _, _, _]) rfl rfl ?_
      exact ⟨_, (_, _), some_eq hj1, trivial, ⟨rfl, rfl, rfl, rfl, rfl, trivial⟩, [], rfl⟩
  · rintro l1 ⟨a_r1, cap_r1⟩ hst
    subst hst
    replace hm1 := on_go hm1
    refine k_norm (L' := [(0, _), (2, _), (3, _), (4, _), (5, _)]) (ms' := [row a_r1 cap_r1 28 4 ApiToken.d l1, box b4 23 [.v (.slice a_r1 l1.length cap_r1)], _, _, _]) rfl rfl ?_
    refine g_seq ?_
    refine g_region ?_
    refine go_p rfl rfl rfl (o_load_box 1 Try.isAgg23 rfl rfl rfl rfl) ?_
    refine go_p rfl rfl rfl (o_move rfl) ?_
    refine go_p rfl rfl rfl (o_len_str Try.runUnderlying9 rfl) ?_
    refine go_u rfl rfl (o_store_box 4 Try.sizeOf23 rfl rfl rfl rfl rfl rfl rfl rfl (Nat.le_of_ble_eq_true rfl)) ?_
    rintro _ _ rfl
    refine go_ms (ms' := [_, box b4 23 [_], box b3 24 [_], box b2 3 [_], box b1 23 [_]]) rfl ?_
    refine go_u rfl rfl (o_store_box 3 Try.sizeOf3 rfl rfl rfl rfl rfl rfl rfl rfl (Nat.le_of_ble_eq_true rfl)) ?_
    rintro _ _ rfl
    refine go_ms (ms' := [_, box b4 23 [_], box b3 24 [_], box b2 3 [_], box b1 23 [_]]) rfl ?_
    refine go_u rfl rfl (o_store_box 2 Try.sizeOf24 rfl rfl rfl rfl rfl rfl rfl rfl (Nat.le_of_ble_eq_true rfl)) ?_
    rintro _ _ rfl
    refine go_ms (ms' := [_, box b4 23 [_], box b3 24 [_], box b2 3 [_], box b1 23 [_]]) rfl ?_
    refine go_nil ?_
    refine g_conv (refines_cellrow 4 0 0 rfl rfl rfl rfl rfl rfl) ?_
    refine g_ret ?_
    exact retK (ret_many (ds := [_, _, _]) rfl (by decide) ⟨ret_cell1 4 rfl rfl rfl Try.isAgg23 rfl, ⟨ret_cell1 3 rfl rfl rfl Try.isAgg3 rfl, ⟨ret_cell1 2 rfl rfl rfl Try.isAgg24 rfl, rfl⟩⟩⟩ (perm_drop _)) (congrArg (fun (p : ((List ApiToken) × Int × Int)) => D.tup [.list 4 ApiToken.d p.1, .i64 p.2.1, .i64 p.2.2]) (some_eq hm1))
def m_syntagmaref03_small (c1 : UInt8) : Option Bool :=
  some (((decide (97 ≤ (c1.toNat : Int))) && (decide ((c1.toNat : Int) ≤ 122))) || (decide ((c1.toNat : Int) = 95)))
def m_syntagmaref03_great (c1 : UInt8) : Option Bool :=
  some ((decide (65 ≤ (c1.toNat : Int))) && (decide ((c1.toNat : Int) ≤ 90)))
def m_syntagmaref03_Word_l1 (s1 : (List UInt8)) : Nat → Int → Option Int
  | 0, _ => none
  | n + 1, n2 =>
    (bif (decide (n2 < (s1.length : Int))) then ((idx s1 n2).bind fun c3 =>
    (m_syntagmaref03_small c3).bind fun x3 =>
    (bif x3 then (some true) else ((idx s1 n2).bind fun c4 =>
    (m_syntagmaref03_great c4).bind fun x4 =>
    some x4)).bind fun p4 =>
    (bif p4 then (some true) else ((idx s1 n2).bind fun c5 =>
    (bif (decide (48 ≤ (c5.toNat : Int))) then ((idx s1 n2).bind fun c6 =>
    some (decide ((c6.toNat : Int) ≤ 57))) else (some false)).bind fun p6 =>
    some p6)).bind fun p5 =>
    some p5) else (some false)).bind fun p3 =>
    bif p3 then
      grd (InR (n2 + 1)) <|
      m_syntagmaref03_Word_l1 s1 n (n2 + 1)
    else
      some n2
def m_syntagmaref03_Word (s1 : (List UInt8)) : Option Int :=
  (bif (decide ((s1.length : Int) = 0)) then (some true) else ((idx s1 0).bind fun c1 =>
  (m_syntagmaref03_small c1).bind fun x1 =>
  (bif (!x1) then ((idx s1 0).bind fun c2 =>
  (m_syntagmaref03_great c2).bind fun x2 =>
  some (!x2)) else (some false)).bind fun p2 =>
  some p2)).bind fun p1 =>
  bif p1 then
    some 0
  else
    (m_syntagmaref03_Word_l1 s1 FU 1 : Option Int).bind fun n1 =>
    some n1
def m_syntagmaref03_In_l1 (s1 : (List UInt8)) (l1 : (List (List UInt8))) : Nat → Int → Option (Out Bool Unit)
  | 0, _ => none
  | n + 1, i1 =>
    bif (decide (i1 < (l1.length : Int))) then
      (idx l1 i1).bind fun x1 =>
      bif (decide ((x1 : List UInt8) = s1)) then
        some (Out.ret true)
      else
        grd (InR (i1 + 1)) <|
        m_syntagmaref03_In_l1 s1 l1 n (i1 + 1)
    else
      some (Out.go (()))
def m_syntagmaref03_In (s1 : (List UInt8)) (l1 : (List (List UInt8))) : Option Bool :=
  ((m_syntagmaref03_In_l1 s1 l1 FU 0 : Option (Out Bool Unit))).bind (fun oo => oo.on (fun r1 => some r1) (fun _ =>
  some false))
def m_syntagmaref03_Keywords  : Option (List (List UInt8)) :=
  some [([102, 117, 110] : List UInt8), ([108, 101, 116] : List UInt8), ([114, 101, 99] : List UInt8), ([105, 110] : List UInt8), ([105, 102] : List UInt8), ([116, 104, 101, 110] : List UInt8), ([101, 108, 115, 101] : List UInt8), ([99, 97, 115, 101] : List UInt8), ([111, 102] : List UInt8), ([101, 110, 100] : List UInt8), ([116, 114, 117, 101] : List UInt8), ([102, 97, 108, 115, 101] : List UInt8), ([99, 104, 101, 99, 107] : List UInt8), ([97, 115, 107] : List UInt8), ([116, 111, 112] : List UInt8), ([98, 111, 116] : List UInt8), ([105, 110, 116] : List UInt8), ([98, 111, 111, 108] : List UInt8), ([115, 116, 114, 105, 110, 103] : List UInt8), ([109, 117] : List UInt8)]
def m_syntagmaref03_Keyword (s1 : (List UInt8)) : Option Bool :=
  (m_syntagmaref03_Keywords).bind fun x1 =>
  (m_syntagmaref03_In s1 x1).bind fun x2 =>
  some x2
def m_syntagmaref01_Parse_l1 (d1 : (List UInt8)) : Nat → (Int × Int) → Option (Out (Int × Int) Int)
  | 0, _ => none
  | n + 1, (n2, i1) =>
    bif (decide (i1 < (d1.length : Int))) then
      (idx d1 i1).bind fun c3 =>
      (bif (decide ((c3.toNat : Int) < 48)) then (some true) else ((idx d1 i1).bind fun c4 =>
      some (decide (57 < (c4.toNat : Int))))).bind fun p4 =>
      bif p4 then
        some (Out.ret (0, 5))
      else
        (idx d1 i1).bind fun c5 =>
        grd (InR (i1 + 1)) <|
        m_syntagmaref01_Parse_l1 d1 n ((IntKind.u64.wrap ((IntKind.u64.wrap (10 * n2)) + (IntKind.u64.wrap ((c5 - (48 : UInt8)).toNat : Int)))), (i1 + 1))
    else
      some (Out.go (n2))
def m_syntagmaref01_Parse (s1 : (List UInt8)) : Option (Int × Int) :=
  (bif (decide (0 < (s1.length : Int))) then ((idx s1 0).bind fun c1 =>
  some (decide ((c1.toNat : Int) = 126))) else (some false)).bind fun p1 =>
  (bif p1 then
    (sli s1 1 (s1.length : Int)).bind fun s2 =>
    some s2
  else
    some s1 : Option (List UInt8)).bind fun d1 =>
  (bif ((decide ((d1.length : Int) < 1)) || (decide (19 < (d1.length : Int)))) then (some true) else ((bif (decide (1 < (d1.length : Int))) then ((idx d1 0).bind fun c2 =>
  some (decide ((c2.toNat : Int) = 48))) else (some false)).bind fun p3 =>
  some p3)).bind fun p2 =>
  bif (p2 || (p1 && (decide ((d1 : List UInt8) = ([48] : List UInt8))))) then
    some (0, 5)
  else
    ((m_syntagmaref01_Parse_l1 d1 FU (0, 0) : Option (Out (Int × Int) Int))).bind (fun oo => oo.on (fun r1 => some r1) (fun n1 =>
    bif ((decide (9223372036854775808 < n1)) || ((decide (n1 = 9223372036854775808)) && (!p1))) then
      some (0, 5)
    else
      bif p1 then
        some ((IntKind.i64.wrap (IntKind.u64.wrap (0 - n1))), 0)
      else
        some ((IntKind.i64.wrap n1), 0)))
def m_syntagmaref02_hex (c1 : UInt8) : Option Int :=
  bif ((decide (48 ≤ (c1.toNat : Int))) && (decide ((c1.toNat : Int) ≤ 57))) then
    some ((c1 - (48 : UInt8)).toNat : Int)
  else
    bif ((decide (97 ≤ (c1.toNat : Int))) && (decide ((c1.toNat : Int) ≤ 102))) then
      grd (InR (((c1 - (97 : UInt8)).toNat : Int) + 10)) <|
      some (((c1 - (97 : UInt8)).toNat : Int) + 10)
    else
      some (-1)
def m_syntagmaref02_Take_l1 (s1 : (List UInt8)) : Nat → (Int × (List UInt8)) → Option (Out ((List UInt8) × Int × Int) (Int × (List UInt8)))
  | 0, _ => none
  | n + 1, (i2, l2) =>
    (bif (decide (i2 < (s1.length : Int))) then ((idx s1 i2).bind fun c2 =>
    some (!decide ((c2.toNat : Int) = 34))) else (some false)).bind fun p2 =>
    bif p2 then
      (idx s1 i2).bind fun c3 =>
      bif ((decide ((c3.toNat : Int) < 32)) || (decide (126 < (c3.toNat : Int)))) then
        some (Out.ret (([] : List UInt8), 0, 5))
      else
        bif (!decide ((c3.toNat : Int) = 92)) then
          grd ((l2.length + ([c3] : List _).length) * 1 ≤ 140737488355328) <|
          grd (InR (i2 + 1)) <|
          m_syntagmaref02_Take_l1 s1 n ((i2 + 1), (l2 ++ [c3]))
        else
          grd (InR (i2 + 1)) <|
          bif (decide ((s1.length : Int) ≤ (i2 + 1))) then
            some (Out.ret (([] : List UInt8), 0, 5))
          else
            grd (InR (i2 + 1)) <|
            (idx s1 (i2 + 1)).bind fun c4 =>
            grd (InR (i2 + 2)) <|
            (bif (decide ((c4.toNat : Int) = 34)) then
              some (decide ((c4.toNat : Int) = 34))
            else
              some (decide ((c4.toNat : Int) = 92)) : Option Bool).bind fun x1 =>
            bif x1 then
              grd ((l2.length + ([c4] : List _).length) * 1 ≤ 140737488355328) <|
              m_syntagmaref02_Take_l1 s1 n ((i2 + 2), (l2 ++ [c4]))
            else
              bif (decide ((c4.toNat : Int) = 110)) then
                grd ((l2.length + ([(10 : UInt8)] : List _).length) * 1 ≤ 140737488355328) <|
                m_syntagmaref02_Take_l1 s1 n ((i2 + 2), (l2 ++ [(10 : UInt8)]))
              else
                bif (decide ((c4.toNat : Int) = 116)) then
                  grd ((l2.length + ([(9 : UInt8)] : List _).length) * 1 ≤ 140737488355328) <|
                  m_syntagmaref02_Take_l1 s1 n ((i2 + 2), (l2 ++ [(9 : UInt8)]))
                else
                  bif (decide ((c4.toNat : Int) = 120)) then
                    grd (InR ((i2 + 2) + 1)) <|
                    (bif (decide ((s1.length : Int) ≤ ((i2 + 2) + 1))) then (some true) else ((idx s1 (i2 + 2)).bind fun c5 =>
                    (m_syntagmaref02_hex c5).bind fun x2 =>
                    some (decide (x2 < 0)))).bind fun p3 =>
                    (bif p3 then (some true) else (grd (InR ((i2 + 2) + 1)) <|
                    (idx s1 ((i2 + 2) + 1)).bind fun c6 =>
                    (m_syntagmaref02_hex c6).bind fun x3 =>
                    some (decide (x3 < 0)))).bind fun p4 =>
                    bif p4 then
                      some (Out.ret (([] : List UInt8), 0, 5))
                    else
                      (idx s1 (i2 + 2)).bind fun c7 =>
                      (m_syntagmaref02_hex c7).bind fun x4 =>
                      grd (InR (16 * x4)) <|
                      grd (InR ((i2 + 2) + 1)) <|
                      (idx s1 ((i2 + 2) + 1)).bind fun c8 =>
                      (m_syntagmaref02_hex c8).bind fun x5 =>
                      grd (InR ((16 * x4) + x5)) <|
                      grd ((l2.length + ([(toU8 ((16 * x4) + x5))] : List _).length) * 1 ≤ 140737488355328) <|
                      grd (InR ((i2 + 2) + 2)) <|
                      m_syntagmaref02_Take_l1 s1 n (((i2 + 2) + 2), (l2 ++ [(toU8 ((16 * x4) + x5))]))
                  else
                    some (Out.ret (([] : List UInt8), 0, 5))
    else
      some (Out.go ((i2, l2)))
def m_syntagmaref02_Take (s1 : (List UInt8)) : Option ((List UInt8) × Int × Int) :=
  (bif (decide ((s1.length : Int) < 2)) then (some true) else ((idx s1 0).bind fun c1 =>
  some (!decide ((c1.toNat : Int) = 34)))).bind fun p1 =>
  bif p1 then
    some (([] : List UInt8), 0, 5)
  else
    ((m_syntagmaref02_Take_l1 s1 FU (1, []) : Option (Out ((List UInt8) × Int × Int) (Int × (List UInt8))))).bind (fun oo => oo.on (fun r1 => some r1) (fun (i1, l1) =>
    bif (decide ((s1.length : Int) ≤ i1)) then
      some (([] : List UInt8), 0, 5)
    else
      bif (decide (200 < (l1.length : Int))) then
        some (([] : List UInt8), 0, 7)
      else
        grd (InR (i1 + 1)) <|
        some (l1, (i1 + 1), 0)))
def m_syntagmaref04_sign_l1 (s1 : (List UInt8)) : Nat → Int → Option (Out Int Unit)
  | 0, _ => none
  | n + 1, i1 =>
    bif (decide (i1 < (([59, 58, 44, 46, 61, 60, 62, 43, 45, 42, 47, 94, 40, 41, 123, 125, 91, 93, 124, 38] : List UInt8).length : Int))) then
      (idx ([59, 58, 44, 46, 61, 60, 62, 43, 45, 42, 47, 94, 40, 41, 123, 125, 91, 93, 124, 38] : List UInt8) i1).bind fun c1 =>
      (idx s1 0).bind fun c2 =>
      bif (decide ((c1.toNat : Int) = (c2.toNat : Int))) then
        some (Out.ret 1)
      else
        grd (InR (i1 + 1)) <|
        m_syntagmaref04_sign_l1 s1 n (i1 + 1)
    else
      some (Out.go (()))
def m_syntagmaref04_sign (s1 : (List UInt8)) : Option Int :=
  (bif (decide (2 ≤ (s1.length : Int))) then ((sli s1 0 2).bind fun s2 =>
  (bif (decide ((s2 : List UInt8) = ([45, 62] : List UInt8))) then (some true) else ((sli s1 0 2).bind fun s3 =>
  some (decide ((s3 : List UInt8) = ([61, 61] : List UInt8))))).bind fun p2 =>
  some p2) else (some false)).bind fun p1 =>
  bif p1 then
    some 2
  else
    ((m_syntagmaref04_sign_l1 s1 FU 0 : Option (Out Int Unit))).bind (fun oo => oo.on (fun r1 => some r1) (fun _ =>
    some 0))
def m_syntagmaref04_one_l1 (s2 : (List UInt8)) : Nat → Int → Option Int
  | 0, _ => none
  | n + 1, n2 =>
    (bif (decide (n2 < (s2.length : Int))) then ((idx s2 n2).bind fun c4 =>
    some (decide (48 ≤ (c4.toNat : Int)))) else (some false)).bind fun p3 =>
    (bif p3 then ((idx s2 n2).bind fun c5 =>
    some (decide ((c5.toNat : Int) ≤ 57))) else (some false)).bind fun p4 =>
    bif p4 then
      grd (InR (n2 + 1)) <|
      m_syntagmaref04_one_l1 s2 n (n2 + 1)
    else
      some n2
def m_syntagmaref04_one (s1 : (List UInt8)) (at1 : Int) : Option (ApiToken × Int × Int) :=
  (sli s1 at1 (s1.length : Int)).bind fun s2 =>
  (idx s2 0).bind fun c1 =>
  (m_syntagmaref03_Word s2).bind fun x1 =>
  bif (decide (0 < x1)) then
    (sli s2 0 x1).bind fun s3 =>
    bif (decide (20 < x1)) then
      some ((⟨0, ([] : List UInt8), 0, 0⟩ : ApiToken), 0, 7)
    else
      (m_syntagmaref03_Keyword s3).bind fun x2 =>
      (bif x2 then
        some 1
      else
        bif ((decide (65 ≤ (c1.toNat : Int))) && (decide ((c1.toNat : Int) ≤ 90))) then
          some 3
        else
          some 2 : Option Int).bind fun k1 =>
      some ((⟨k1, s3, 0, at1⟩ : ApiToken), x1, 0)
  else
    bif (decide ((c1.toNat : Int) = 39)) then
      (sli s2 1 (s2.length : Int)).bind fun s4 =>
      (m_syntagmaref03_Word s4).bind fun x3 =>
      (bif (decide (x3 = 0)) then (some true) else ((idx s2 1).bind fun c2 =>
      (bif (decide (65 ≤ (c2.toNat : Int))) then ((idx s2 1).bind fun c3 =>
      some (decide ((c3.toNat : Int) ≤ 90))) else (some false)).bind fun p2 =>
      some p2)).bind fun p1 =>
      bif p1 then
        some ((⟨0, ([] : List UInt8), 0, 0⟩ : ApiToken), 0, 5)
      else
        bif (decide (20 < x3)) then
          some ((⟨0, ([] : List UInt8), 0, 0⟩ : ApiToken), 0, 7)
        else
          grd (InR (1 + x3)) <|
          (sli s2 1 (1 + x3)).bind fun s5 =>
          grd (InR (1 + x3)) <|
          some ((⟨6, s5, 0, at1⟩ : ApiToken), (1 + x3), 0)
    else
      bif (((decide (48 ≤ (c1.toNat : Int))) && (decide ((c1.toNat : Int) ≤ 57))) || (decide ((c1.toNat : Int) = 126))) then
        (m_syntagmaref04_one_l1 s2 FU 1 : Option Int).bind fun n1 =>
        (sli s2 0 n1).bind fun s6 =>
        (m_syntagmaref01_Parse s6).bind fun (x4, x5) =>
        bif (!decide (x5 = 0)) then
          some ((⟨0, ([] : List UInt8), 0, 0⟩ : ApiToken), 0, x5)
        else
          some ((⟨4, ([] : List UInt8), x4, at1⟩ : ApiToken), n1, 0)
      else
        bif (decide ((c1.toNat : Int) = 34)) then
          (m_syntagmaref02_Take s2).bind fun (x6, x7, x8) =>
          bif (!decide (x8 = 0)) then
            some ((⟨0, ([] : List UInt8), 0, 0⟩ : ApiToken), 0, x8)
          else
            some ((⟨5, x6, 0, at1⟩ : ApiToken), x7, 0)
        else
          (m_syntagmaref04_sign s2).bind fun x9 =>
          bif (decide (0 < x9)) then
            (sli s2 0 x9).bind fun s7 =>
            some ((⟨7, s7, 0, at1⟩ : ApiToken), x9, 0)
          else
            some ((⟨0, ([] : List UInt8), 0, 0⟩ : ApiToken), 0, 5)
theorem fi_28_2 : FieldIs Try.prog 28 2 2 1 false := ⟨⟨_, _, Try.runUnderlying28, rfl, rfl, Try.sizeOf2, by decide, Try.isAgg2⟩⟩
def m_syntagmalaw04_works  : Option Bool :=
  (m_lex_All ([102, 117, 110, 32, 120, 32, 45, 62, 32, 49, 50] : List UInt8)).bind fun (x1, x2, x3) =>
  (bif (((decide (x3 = 0)) && (decide (x2 = 11))) && (decide ((x1.length : Int) = 4))) then ((idx x1 0).bind fun x4 =>
  some (decide (x4.kind = 1))) else (some false)).bind fun p1 =>
  (bif p1 then ((idx x1 2).bind fun x5 =>
  some (decide ((x5.s : List UInt8) = ([45, 62] : List UInt8)))) else (some false)).bind fun p2 =>
  (bif p2 then ((idx x1 3).bind fun x6 =>
  some (decide (x6.n_ = 12))) else (some false)).bind fun p3 =>
  some p3
theorem w_syntagmalaw04_works  {r_1 : Bool} (hm : m_syntagmalaw04_works = some r_1) : Fn0 Try.prog 18 [] (.bool r_1) := by
  unfold m_syntagmalaw04_works at hm
  refine fn_intro Try.func18 rfl Try.ntmps18 rfl fun H0 fr w0 => ?_
  refine g_seq ?_
  refine g_region ?_
  refine go_p rfl rfl rfl (o_assign rfl) ?_
  refine go_nil ?_
  refine g_seq ?_
  refine g_region ?_
  obtain ⟨⟨x1, x2, x3⟩, hx1, hm⟩ := bind_some hm
  refine go_p rfl rfl rfl (o_call0 Try.call16 rfl (w_lex_All hx1)) ?_
  refine go_p rfl rfl rfl (o_move rfl) ?_
  refine go_p rfl rfl rfl (o_extract rfl rfl) ?_
  refine go_p rfl rfl rfl (o_extract rfl rfl) ?_
  refine go_p rfl rfl rfl (o_extract rfl rfl) ?_
  refine go_p rfl rfl rfl (o_assign rfl) ?_
  refine go_p rfl rfl rfl (o_assign rfl) ?_
  refine go_p rfl rfl rfl (o_assign rfl) ?_
  refine go_nil ?_
  refine g_seq ?_
  refine g_region ?_
  refine go_p rfl rfl rfl (o_move rfl) ?_
  refine go_p rfl rfl rfl (o_cmp rfl rfl rfl) ?_
  refine go_p rfl rfl rfl (o_move rfl) ?_
  apply go_and [(1, _)] 3 14 (t := 11) ⟨rfl, trivial⟩ rfl
  · intro hg_1 hk1
    refine go_wantp rfl rfl rfl hg_1 rfl rfl (o_move rfl) ?_
    refine go_wantp rfl rfl rfl hg_1 rfl rfl (o_cmp rfl rfl rfl) ?_
    refine go_p rfl rfl rfl (o_pickT rfl hg_1 rfl) ?_
    exact go_meet hk1 (rfl) ⟨rfl, trivial⟩
  · intro hg_1 hk1
    refine go_skip rfl rfl rfl hg_1 rfl rfl ?_
    refine go_skip rfl rfl rfl hg_1 rfl rfl ?_
    refine go_p rfl rfl rfl (o_pickF rfl hg_1 rfl) ?_
    exact go_meet hk1 (rfl) ⟨rfl, trivial⟩
  refine go_p rfl rfl rfl (o_move rfl) ?_
  apply go_and [(1, _)] 4 19 (t := 15) ⟨rfl, trivial⟩ rfl
  · intro hg_2 hk2
    refine go_wantp rfl rfl rfl hg_2 rfl rfl (o_move rfl) ?_
    refine go_wantp rfl rfl rfl hg_2 rfl rfl (o_len Try.runUnderlying23 rfl) ?_
    refine go_wantp rfl rfl rfl hg_2 rfl rfl (o_cmp rfl rfl rfl) ?_
    refine go_p rfl rfl rfl (o_pickT rfl hg_2 rfl) ?_
    exact go_meet hk2 (rfl) ⟨rfl, trivial⟩
  · intro hg_2 hk2
    refine go_skip rfl rfl rfl hg_2 rfl rfl ?_
    refine go_skip rfl rfl rfl hg_2 rfl rfl ?_
    refine go_skip rfl rfl rfl hg_2 rfl rfl ?_
    refine go_p rfl rfl rfl (o_pickF rfl hg_2 rfl) ?_
    exact go_meet hk2 (rfl) ⟨rfl, trivial⟩
  refine go_p rfl rfl rfl (o_move rfl) ?_
  obtain ⟨p1, hp_3, hm⟩ := bind_some hm
  refine go_two [(1, _)] 6 26 p1 (t := 20) ⟨rfl, trivial⟩ rfl (fun hg_3 hk3 => ?_) (fun hg_3 hk3 => ?_) ?_
  · replace hp_3 := cond_t hg_3 hp_3
    refine go_wantp rfl rfl rfl hg_3 rfl rfl (o_move rfl) ?_
    obtain ⟨x4, hx2, hp_3⟩ := bind_some hp_3
    refine go_wantp rfl rfl rfl hg_3 rfl rfl (o_indexAddr_m Try.runUnderlying23 Try.sizeOf28 rfl rfl hx2) ?_
    refine go_wantp rfl rfl rfl hg_3 rfl rfl (o_fieldAddr fi_28_0 rfl rfl rfl) ?_
    refine go_wantp rfl rfl rfl hg_3 rfl rfl (o_load Try.isAgg3 rfl rfl) ?_
    refine go_wantp rfl rfl rfl hg_3 rfl rfl (o_cmp rfl rfl rfl) ?_
    refine go_p rfl rfl rfl (o_pickT rfl hg_3 rfl) ?_
    exact go_meet hk3 (congrArg (fun b => some (D.bool b)) (some_eq hp_3)) ⟨rfl, trivial⟩
  · replace hp_3 := cond_f hg_3 hp_3
    refine go_skip rfl rfl rfl hg_3 rfl rfl ?_
    refine go_skip rfl rfl rfl hg_3 rfl rfl ?_
    refine go_skip rfl rfl rfl hg_3 rfl rfl ?_
    refine go_skip rfl rfl rfl hg_3 rfl rfl ?_
    refine go_skip rfl rfl rfl hg_3 rfl rfl ?_
    refine go_p rfl rfl rfl (o_pickF rfl hg_3 rfl) ?_
    exact go_meet hk3 (congrArg (fun b => some (D.bool b)) (some_eq hp_3)) ⟨rfl, trivial⟩
  refine go_p rfl rfl rfl (o_move rfl) ?_
  obtain ⟨p2, hp_4, hm⟩ := bind_some hm
  refine go_two [(1, _)] 6 33 p2 (t := 27) ⟨rfl, trivial⟩ rfl (fun hg_4 hk4 => ?_) (fun hg_4 hk4 => ?_) ?_
  · replace hp_4 := cond_t hg_4 hp_4
    refine go_wantp rfl rfl rfl hg_4 rfl rfl (o_move rfl) ?_
    obtain ⟨x5, hx3, hp_4⟩ := bind_some hp_4
    refine go_wantp rfl rfl rfl hg_4 rfl rfl (o_indexAddr_m Try.runUnderlying23 Try.sizeOf28 rfl rfl hx3) ?_
    refine go_wantp rfl rfl rfl hg_4 rfl rfl (o_fieldAddr fi_28_1 rfl rfl rfl) ?_
    refine go_wantp rfl rfl rfl hg_4 rfl rfl (o_load Try.isAgg9 rfl rfl) ?_
    refine go_wantp rfl rfl rfl hg_4 rfl rfl (o_cmps rfl rfl rfl) ?_
    refine go_p rfl rfl rfl (o_pickT rfl hg_4 rfl) ?_
    exact go_meet hk4 (congrArg (fun b => some (D.bool b)) (some_eq hp_4)) ⟨rfl, trivial⟩
  · replace hp_4 := cond_f hg_4 hp_4
    refine go_skip rfl rfl rfl hg_4 rfl rfl ?_
    refine go_skip rfl rfl rfl hg_4 rfl rfl ?_
    refine go_skip rfl rfl rfl hg_4 rfl rfl ?_
    refine go_skip rfl rfl rfl hg_4 rfl rfl ?_
    refine go_skip rfl rfl rfl hg_4 rfl rfl ?_
    refine go_p rfl rfl rfl (o_pickF rfl hg_4 rfl) ?_
    exact go_meet hk4 (congrArg (fun b => some (D.bool b)) (some_eq hp_4)) ⟨rfl, trivial⟩
  refine go_p rfl rfl rfl (o_move rfl) ?_
  obtain ⟨p3, hp_5, hm⟩ := bind_some hm
  refine go_two [] 6 40 p3 (t := 34) trivial rfl (fun hg_5 hk5 => ?_) (fun hg_5 hk5 => ?_) ?_
  · replace hp_5 := cond_t hg_5 hp_5
    refine go_wantp rfl rfl rfl hg_5 rfl rfl (o_move rfl) ?_
    obtain ⟨x6, hx4, hp_5⟩ := bind_some hp_5
    refine go_wantp rfl rfl rfl hg_5 rfl rfl (o_indexAddr_m Try.runUnderlying23 Try.sizeOf28 rfl rfl hx4) ?_
    refine go_wantp rfl rfl rfl hg_5 rfl rfl (o_fieldAddr fi_28_2 rfl rfl rfl) ?_
    refine go_wantp rfl rfl rfl hg_5 rfl rfl (o_load Try.isAgg2 rfl rfl) ?_
    refine go_wantp rfl rfl rfl hg_5 rfl rfl (o_cmp rfl rfl rfl) ?_
    refine go_p rfl rfl rfl (o_pickT rfl hg_5 rfl) ?_
    exact go_meet hk5 (congrArg (fun b => some (D.bool b)) (some_eq hp_5)) trivial
  · replace hp_5 := cond_f hg_5 hp_5
    refine go_skip rfl rfl rfl hg_5 rfl rfl ?_
    refine go_skip rfl rfl rfl hg_5 rfl rfl ?_
    refine go_skip rfl rfl rfl hg_5 rfl rfl ?_
    refine go_skip rfl rfl rfl hg_5 rfl rfl ?_
    refine go_skip rfl rfl rfl hg_5 rfl rfl ?_
    refine go_p rfl rfl rfl (o_pickF rfl hg_5 rfl) ?_
    exact go_meet hk5 (congrArg (fun b => some (D.bool b)) (some_eq hp_5)) trivial
  refine go_p rfl rfl rfl (o_assign rfl) ?_
  refine go_nil ?_
  refine g_ret ?_
  exact retK (ret_one' rfl (ret_tmp rfl) (perm_drop _)) (congrArg (fun (p : Bool) => (.bool p : D)) (some_eq hm))
def ApiToken.eqv (x y : ApiToken) : Bool := ((x.kind == y.kind) && ((x.s == y.s) && ((x.n_ == y.n_) && ((x.pos == y.pos) && true))))
theorem eqf_28 : ∀ fs : Array Field, Try.prog.underlying 28 = some (.struct fs) → EqFields Try.prog fs.toList 0 [.int, .str, .int, .int] := by
  intro fs h
  have := h.symm.trans Try.underlying28
  simp only [Option.some.injEq, TypeDesc.struct.injEq] at this
  subst this
  exact ⟨by decide, rfl, Try.isAgg3, ⟨_, Try.underlying3⟩, ⟨by decide, rfl, Try.isAgg9, Try.underlying9, ⟨by decide, rfl, Try.isAgg2, ⟨_, Try.underlying2⟩, ⟨by decide, rfl, Try.isAgg3, ⟨_, Try.underlying3⟩, trivial⟩⟩⟩⟩
def m_syntagmalaw04_LexAll_l1 (x8 : (List ApiToken)) (x9 : Int) : Nat → (Int × (List ApiToken) × Int) → Option (Out Bool ((List ApiToken) × Int))
  | 0, _ => none
  | n + 1, (i1, z3, z4) =>
    bif (decide (i1 < (x8.length : Int))) then
      (m_rd_Next (⟨z3, z4⟩ : LexReader)).bind fun (x11, s3) =>
      (idx x8 i1).bind fun x12 =>
      bif (!(ApiToken.eqv (⟨x11.kind, x11.s, x11.n_, x11.pos⟩ : ApiToken) x12)) then (some (Out.ret false)) else (bif (decide (x11.pos < 0)) then (some (Out.ret false)) else (bif (decide (x9 ≤ x11.pos)) then (some (Out.ret false)) else (bif (decide (0 < i1)) then (grd (InR (i1 - 1)) <|
      (idx x8 (i1 - 1)).bind fun x13 =>
      bif (decide (x11.pos ≤ x13.pos)) then
        some (Out.ret false)
      else
        grd (InR (i1 + 1)) <|
        m_syntagmalaw04_LexAll_l1 x8 x9 n ((i1 + 1), s3.l, s3.end_)) else (grd (InR (i1 + 1)) <|
      m_syntagmalaw04_LexAll_l1 x8 x9 n ((i1 + 1), s3.l, s3.end_)))))
    else
      some (Out.go ((z3, z4)))
def m_syntagmalaw04_LexAll (s1 : (List UInt8)) : Option Bool :=
  (m_syntagmalaw04_works).bind fun x1 =>
  bif (!x1) then
    some false
  else
    (m_rd_PeekN).bind fun x2 =>
    (bif (!(ApiToken.eqv x2 (⟨0, ([] : List UInt8), 0, 0⟩ : ApiToken))) then (some true) else ((m_rd_NextN).bind fun x3 =>
    some (!(ApiToken.eqv x3 (⟨0, ([] : List UInt8), 0, 0⟩ : ApiToken))))).bind fun p1 =>
    (bif p1 then (some true) else ((m_rd_IsN 0 ([] : List UInt8)).bind fun x4 =>
    some x4)).bind fun p2 =>
    (bif p2 then (some true) else ((m_rd_TakeN 0 ([] : List UInt8)).bind fun x5 =>
    some x5)).bind fun p3 =>
    (bif p3 then (some true) else ((m_rd_DoneN).bind fun x6 =>
    some (!x6))).bind fun p4 =>
    bif p4 then
      some false
    else
      (m_syntagmalaw04_short s1).bind fun x7 =>
      (m_lex_All x7).bind fun (x8, x9, x10) =>
      bif (!decide (x10 = 0)) then
        some (decide ((x8.length : Int) = 0))
      else
        (m_rd_New x8 x9).bind fun s2 =>
        ((m_syntagmalaw04_LexAll_l1 x8 x9 FU (0, s2.l, s2.end_) : Option (Out Bool ((List ApiToken) × Int)))).bind (fun oo => oo.on (fun r1 => some r1) (fun (z1, z2) =>
        (m_rd_Done (⟨z1, z2⟩ : LexReader)).bind fun x14 =>
        bif x14 then ((m_rd_Next (⟨z1, z2⟩ : LexReader)).bind fun (x15, s4) =>
        some (ApiToken.eqv x15 (⟨0, ([] : List UInt8), 0, x9⟩ : ApiToken))) else (some false)))
theorem w_syntagmalaw04_LexAll {s1 : (List UInt8)} {r_1 : Bool} (hm : m_syntagmalaw04_LexAll s1 = some r_1) : Fn0 Try.prog 4 [.str s1] (.bool r_1) := by
  unfold m_syntagmalaw04_LexAll at hm
  refine fn_intro Try.func4 rfl Try.ntmps4 rfl fun H0 fr w0 => ?_
  refine g_seq ?_
  refine g_region ?_
  refine go_p rfl rfl rfl (o_assign rfl) ?_
  refine go_nil ?_
  refine g_seq ?_
  refine g_seq ?_
  refine g_region ?_
  obtain ⟨x1, hx1, hm⟩ := bind_some hm
  refine go_p rfl rfl rfl (o_call0 Try.call18 rfl (w_syntagmalaw04_works hx1)) ?_
  refine go_p rfl rfl rfl (o_not rfl) ?_
  refine go_nil ?_
  refine g_cond rfl (fun hc1 => ?_) (fun hc1 => ?_)
  · replace hm := cond_t hc1 hm
    refine g_seq ?_
    refine g_region ?_
    refine go_p rfl rfl rfl (o_assign rfl) ?_
    refine go_nil ?_
    refine g_ret ?_
    exact retK (ret_one' rfl (ret_tmp rfl) (perm_drop _)) (congrArg (fun (p : Bool) => (.bool p : D)) (some_eq hm))
  · replace hm := cond_f hc1 hm
    refine g_skip ?_
    refine g_seq ?_
    refine g_region ?_
    refine go_p rfl rfl rfl (o_assign rfl) ?_
    refine go_nil ?_
    refine g_seq ?_
    refine g_seq ?_
    refine g_region ?_
    refine go_p rfl rfl rfl (o_move rfl) ?_
    obtain ⟨x2, hx2, hm⟩ := bind_some hm
    refine go_p rfl rfl rfl (o_call0 Try.call19 rfl (w_rd_PeekN hx2)) ?_
    refine go_p rfl rfl rfl (o_build (zs := [.v (.int .i64 0), .str [], .v (.int .i64 0), .v (.int .i64 0)]) Try.runUnderlying28 Try.zeroValue28 (pl_28 _ Try.runUnderlying28) rfl rfl rfl rfl) ?_
    refine go_p rfl rfl rfl (o_neqagg (ks := [.int, .str, .int, .int]) Try.underlying28 (by kernel_rfl) (by kernel_rfl) (eqf_28 _ Try.underlying28) rfl rfl rfl) ?_
    refine go_p rfl rfl rfl (o_move rfl) ?_
    obtain ⟨p1, hp_1, hm⟩ := bind_some hm
    refine go_two [(0, _), (3, _)] 5 21 p1 (t := 16) ⟨rfl, rfl, trivial⟩ rfl (fun hg_1 hk1 => ?_) (fun hg_1 hk1 => ?_) ?_
    · replace hp_1 := cond_t hg_1 hp_1
      refine go_skip rfl rfl rfl hg_1 rfl rfl ?_
      refine go_skip rfl rfl rfl hg_1 rfl rfl ?_
      refine go_skip rfl rfl rfl hg_1 rfl rfl ?_
      refine go_skip rfl rfl rfl hg_1 rfl rfl ?_
      refine go_p rfl rfl rfl (o_pickT rfl hg_1 rfl) ?_
      exact go_meet hk1 (congrArg (fun b => some (D.bool b)) (some_eq hp_1)) ⟨rfl, rfl, trivial⟩
    · replace hp_1 := cond_f hg_1 hp_1
      refine go_wantp rfl rfl rfl hg_1 rfl rfl (o_move rfl) ?_
      obtain ⟨x3, hx3, hp_1⟩ := bind_some hp_1
      refine go_wantp rfl rfl rfl hg_1 rfl rfl (o_call0 Try.call20 rfl (w_rd_NextN hx3)) ?_
      refine go_wantp rfl rfl rfl hg_1 rfl rfl (o_build (zs := [.v (.int .i64 0), .str [], .v (.int .i64 0), .v (.int .i64 0)]) Try.runUnderlying28 Try.zeroValue28 (pl_28 _ Try.runUnderlying28) rfl rfl rfl rfl) ?_
      refine go_wantp rfl rfl rfl hg_1 rfl rfl (o_neqagg (ks := [.int, .str, .int, .int]) Try.underlying28 (by kernel_rfl) (by kernel_rfl) (eqf_28 _ Try.underlying28) rfl rfl rfl) ?_
      refine go_p rfl rfl rfl (o_pickF rfl hg_1 rfl) ?_
      exact go_meet hk1 (congrArg (fun b => some (D.bool b)) (some_eq hp_1)) ⟨rfl, rfl, trivial⟩
    refine go_p rfl rfl rfl (o_move rfl) ?_
    obtain ⟨p2, hp_2, hm⟩ := bind_some hm
    refine go_two [(0, _), (3, _)] 3 25 p2 (t := 22) ⟨rfl, rfl, trivial⟩ rfl (fun hg_2 hk2 => ?_) (fun hg_2 hk2 => ?_) ?_
    · replace hp_2 := cond_t hg_2 hp_2
      refine go_skip rfl rfl rfl hg_2 rfl rfl ?_
      refine go_skip rfl rfl rfl hg_2 rfl rfl ?_
      refine go_p rfl rfl rfl (o_pickT rfl hg_2 rfl) ?_
      exact go_meet hk2 (congrArg (fun b => some (D.bool b)) (some_eq hp_2)) ⟨rfl, rfl, trivial⟩
    · replace hp_2 := cond_f hg_2 hp_2
      refine go_wantp rfl rfl rfl hg_2 rfl rfl (o_move rfl) ?_
      obtain ⟨x4, hx4, hp_2⟩ := bind_some hp_2
      refine go_wantp rfl rfl rfl hg_2 rfl rfl (o_call0 Try.call21 rfl (w_rd_IsN hx4)) ?_
      refine go_p rfl rfl rfl (o_pickF rfl hg_2 rfl) ?_
      exact go_meet hk2 (congrArg (fun b => some (D.bool b)) (some_eq hp_2)) ⟨rfl, rfl, trivial⟩
    refine go_p rfl rfl rfl (o_move rfl) ?_
    obtain ⟨p3, hp_3, hm⟩ := bind_some hm
    refine go_two [(0, _), (3, _)] 3 29 p3 (t := 26) ⟨rfl, rfl, trivial⟩ rfl (fun hg_3 hk3 => ?_) (fun hg_3 hk3 => ?_) ?_
    · replace hp_3 := cond_t hg_3 hp_3
      refine go_skip rfl rfl rfl hg_3 rfl rfl ?_
      refine go_skip rfl rfl rfl hg_3 rfl rfl ?_
      refine go_p rfl rfl rfl (o_pickT rfl hg_3 rfl) ?_
      exact go_meet hk3 (congrArg (fun b => some (D.bool b)) (some_eq hp_3)) ⟨rfl, rfl, trivial⟩
    · replace hp_3 := cond_f hg_3 hp_3
      refine go_wantp rfl rfl rfl hg_3 rfl rfl (o_move rfl) ?_
      obtain ⟨x5, hx5, hp_3⟩ := bind_some hp_3
      refine go_wantp rfl rfl rfl hg_3 rfl rfl (o_call0 Try.call22 rfl (w_rd_TakeN hx5)) ?_
      refine go_p rfl rfl rfl (o_pickF rfl hg_3 rfl) ?_
      exact go_meet hk3 (congrArg (fun b => some (D.bool b)) (some_eq hp_3)) ⟨rfl, rfl, trivial⟩
    refine go_p rfl rfl rfl (o_move rfl) ?_
    obtain ⟨p4, hp_4, hm⟩ := bind_some hm
    refine go_two [(0, _)] 4 34 p4 (t := 30) ⟨rfl, trivial⟩ rfl (fun hg_4 hk4 => ?_) (fun hg_4 hk4 => ?_) ?_
    · replace hp_4 := cond_t hg_4 hp_4
      refine go_skip rfl rfl rfl hg_4 rfl rfl ?_
      refine go_skip rfl rfl rfl hg_4 rfl rfl ?_
      refine go_skip rfl rfl rfl hg_4 rfl rfl ?_
      refine go_p rfl rfl rfl (o_pickT rfl hg_4 rfl) ?_
      exact go_meet hk4 (congrArg (fun b => some (D.bool b)) (some_eq hp_4)) ⟨rfl, trivial⟩
    · replace hp_4 := cond_f hg_4 hp_4
      refine go_wantp rfl rfl rfl hg_4 rfl rfl (o_move rfl) ?_
      obtain ⟨x6, hx6, hp_4⟩ := bind_some hp_4
      refine go_wantp rfl rfl rfl hg_4 rfl rfl (o_call0 Try.call23 rfl (w_rd_DoneN hx6)) ?_
      refine go_wantp rfl rfl rfl hg_4 rfl rfl (o_not rfl) ?_
      refine go_p rfl rfl rfl (o_pickF rfl hg_4 rfl) ?_
      exact go_meet hk4 (congrArg (fun b => some (D.bool b)) (some_eq hp_4)) ⟨rfl, trivial⟩
    refine go_nil ?_
    refine g_cond rfl (fun hc2 => ?_) (fun hc2 => ?_)
    · replace hm := cond_t hc2 hm
      refine g_seq ?_
      refine g_region ?_
      refine go_p rfl rfl rfl (o_assign rfl) ?_
      refine go_nil ?_
      refine g_ret ?_
      exact retK (ret_one' rfl (ret_tmp rfl) (perm_drop _)) (congrArg (fun (p : Bool) => (.bool p : D)) (some_eq hm))
    · replace hm := cond_f hc2 hm
      refine g_skip ?_
      refine g_seq ?_
      refine g_region ?_
      refine go_p rfl rfl rfl (o_move rfl) ?_
      obtain ⟨x7, hx7, hm⟩ := bind_some hm
      refine go_p rfl rfl rfl (o_call0 Try.call15 rfl (w_syntagmalaw04_short hx7)) ?_
      obtain ⟨⟨x8, x9, x10⟩, hx8, hm⟩ := bind_some hm
      refine go_p rfl rfl rfl (o_call0 Try.call16 rfl (w_lex_All hx8)) ?_
      refine go_p rfl rfl rfl (o_move rfl) ?_
      refine go_p rfl rfl rfl (o_extract rfl rfl) ?_
      refine go_p rfl rfl rfl (o_extract rfl rfl) ?_
      refine go_p rfl rfl rfl (o_extract rfl rfl) ?_
      refine go_p rfl rfl rfl (o_assign rfl) ?_
      refine go_p rfl rfl rfl (o_assign rfl) ?_
      refine go_p rfl rfl rfl (o_assign rfl) ?_
      refine go_nil ?_
      refine g_seq ?_
      refine g_seq ?_
      refine g_region ?_
      refine go_p rfl rfl rfl (o_move rfl) ?_
      refine go_p rfl rfl rfl (o_cmp rfl rfl rfl) ?_
      refine go_nil ?_
      refine g_cond rfl (fun hc3 => ?_) (fun hc3 => ?_)
      · replace hm := cond_t hc3 hm
        refine g_seq ?_
        refine g_region ?_
        refine go_p rfl rfl rfl (o_move rfl) ?_
        refine go_p rfl rfl rfl (o_len Try.runUnderlying23 rfl) ?_
        refine go_p rfl rfl rfl (o_cmp rfl rfl rfl) ?_
        refine go_p rfl rfl rfl (o_assign rfl) ?_
        refine go_nil ?_
        refine g_ret ?_
        exact retK (ret_one' rfl (ret_tmp rfl) (perm_drop _)) (congrArg (fun (p : Bool) => (.bool p : D)) (some_eq hm))
      · replace hm := cond_f hc3 hm
        refine g_skip ?_
        refine g_seq ?_
        refine g_region ?_
        refine go_p rfl rfl rfl (o_move rfl) ?_
        refine go_p rfl rfl rfl (o_move rfl) ?_
        obtain ⟨s2, hx9, hm⟩ := bind_some hm
        refine go_op rfl rfl rfl (o_call (ms₁ := []) Try.call24 rfl (List.Perm.refl _) (w_rd_New hx9)) ?_
        rintro _ _ ⟨_, ⟨b1, rfl, rfl⟩, rfl⟩
        refine go_p rfl rfl rfl (o_assign rfl) ?_
        refine go_nil ?_
        refine g_seq ?_
        refine g_seq ?_
        refine g_region ?_
        refine go_p rfl rfl rfl (o_assign rfl) ?_
        refine go_nil ?_
        obtain ⟨o_1, hj1, hm1⟩ := bind_some hm
        refine g_cut_m [(5, _), (7, _)] [] (fun (st : ((List ApiToken) × Int)) (hid : Unit) => match st, hid with | (z1, z2), _ => []) (fun F (st : ((List ApiToken) × Int)) (hid : Unit) => match st, hid with | (z1, z2), _ => [box b1 92 [.list 4 ApiToken.d z1, .i64 z2]]) (fun st => Out.go (st) = o_1) ⟨rfl, rfl, trivial⟩ trivial ?_ ?_
        · skip
          refine g_block ?_
          refine g_loop_m [(4, _), (5, _), (7, _)] [] (fun (st : (Int × (List ApiToken) × Int)) (hid : Unit) => match st, hid with | (i1, z3, z4), _ => [(8, .i64 i1)]) (fun F (st : (Int × (List ApiToken) × Int)) (hid : Unit) => match st, hid with | (i1, z3, z4), _ => [box b1 92 [.list 4 ApiToken.d z3, .i64 z4]]) () hj1 (fun _ => rfl) ⟨rfl, rfl, rfl, trivial⟩ trivial ⟨rfl, trivial⟩ rfl ?_
          rintro n ⟨i1, z3, z4⟩ _ hj1
          rw [m_syntagmalaw04_LexAll_l1] at hj1
          refine g_norm (L' := [(8, .i64 i1), (4, _), (5, _), (7, _)]) (ms' := [box b1 92 [.list 4 ApiToken.d z3, .i64 z4]]) rfl rfl ?_
          refine g_seq ?_
          refine g_seq ?_
          refine g_region ?_
          refine go_p rfl rfl rfl (o_move rfl) ?_
          refine go_p rfl rfl rfl (o_move rfl) ?_
          refine go_p rfl rfl rfl (o_len Try.runUnderlying23 rfl) ?_
          refine go_p rfl rfl rfl (o_cmp rfl rfl rfl) ?_
          refine go_nil ?_
          refine g_cond rfl (fun hc4 => ?_) (fun hc4 => ?_)
          · replace hj1 := cond_t hc4 hj1
            refine g_skip ?_
            refine g_seq ?_
            refine g_block ?_
            refine g_seq ?_
            refine g_region ?_
            refine go_p rfl rfl rfl (o_move rfl) ?_
            obtain ⟨⟨x11, s3⟩, hx10, hj1⟩ := bind_some hj1
            refine go_op rfl rfl rfl (o_call_own [0] Try.call20 rfl rfl (getL_c rfl getL_n) (w_rd_Next hx10) (by rintro _ _ ⟨rfl, rfl⟩; rfl)) ?_
            rintro _ _ ⟨_, ⟨rfl, rfl⟩, rfl⟩
            refine go_ms (ms' := [box b1 92 [_, _]]) rfl ?_
            refine go_op rfl rfl rfl (o_alloc_own Try.zeroValue28 (cs := [.i64 0, .str ([] : List UInt8), .i64 0, .i64 0]) rfl) ?_
            rintro _ _ ⟨b2, rfl, rfl⟩
            refine go_u rfl rfl (o_store_box 0 Try.sizeOf28 rfl rfl rfl rfl rfl rfl rfl rfl (Nat.le_of_ble_eq_true rfl)) ?_
            rintro _ _ rfl
            refine go_ms (ms' := [box b2 28 [_, _, _, _], box b1 92 [_, _]]) rfl ?_
            refine go_nil ?_
            refine g_seq ?_
            obtain ⟨x12, hx11, hj1⟩ := bind_some hj1
            rcases cond_split hj1 with ⟨hg_5, hj1⟩ | ⟨hg_5, hj1⟩
            ·
              skip
              refine g_draw 32 Try_mixed (by decide +kernel) ?_
              refine gd_p rfl rfl rfl (o_load_box_agg 0 Try.isAgg28 Try.sizeOf28 rfl rfl rfl rfl (Nat.le_of_ble_eq_true rfl)) ?_
              refine gd_p rfl rfl rfl (o_move rfl) ?_
              refine gd_p rfl rfl rfl (o_move rfl) ?_
              refine gd_p rfl rfl rfl (o_indexAddr_m Try.runUnderlying23 Try.sizeOf28 rfl rfl hx11) ?_
              refine gd_p rfl rfl rfl (o_load_agg Try.isAgg28 Try.sizeOf28 rfl rfl) ?_
              refine gd_p rfl rfl rfl (o_neqagg (ks := [.int, .str, .int, .int]) Try.underlying28 (by kernel_rfl) (by kernel_rfl) (eqf_28 _ Try.underlying28) rfl rfl rfl) ?_
              refine gd_p rfl rfl rfl (o_move rfl) ?_
              refine gd_skip rfl rfl rfl hg_5 rfl rfl ?_
              refine gd_skip rfl rfl rfl hg_5 rfl rfl ?_
              refine gd_skip rfl rfl rfl hg_5 rfl rfl ?_
              refine gd_p rfl rfl rfl (o_pickT rfl hg_5 rfl) ?_
              refine gd_p rfl rfl rfl (o_move rfl) ?_
              refine gd_skip rfl rfl rfl rfl rfl rfl ?_
              refine gd_skip rfl rfl rfl rfl rfl rfl ?_
              refine gd_skip rfl rfl rfl rfl rfl rfl ?_
              refine gd_skip rfl rfl rfl rfl rfl rfl ?_
              refine gd_p rfl rfl rfl (o_pickT rfl rfl rfl) ?_
              refine gd_p rfl rfl rfl (o_move rfl) ?_
              refine gd_skip rfl rfl rfl rfl rfl rfl ?_
              refine gd_skip rfl rfl rfl rfl rfl rfl ?_
              refine gd_skip rfl rfl rfl rfl rfl rfl ?_
              refine gd_skipu rfl rfl rfl rfl rfl ?_
              refine gd_skipu rfl rfl rfl rfl rfl ?_
              refine gd_skipu rfl rfl rfl rfl rfl ?_
              refine gd_skipu rfl rfl rfl rfl rfl ?_
              refine gd_skipu rfl rfl rfl rfl rfl ?_
              refine gd_skipu rfl rfl rfl rfl rfl ?_
              refine gd_skipu rfl rfl rfl rfl rfl ?_
              refine gd_skipu rfl rfl rfl rfl rfl ?_
              refine gd_skipu rfl rfl rfl rfl rfl ?_
              refine gd_skip rfl rfl rfl rfl rfl rfl ?_
              refine gd_p rfl rfl rfl (o_pickT rfl rfl rfl) ?_
              refine gd_nil ?_
              refine go_nil ?_
              refine g_cond_true rfl rfl ?_
              refine g_seq ?_
              refine g_region ?_
              refine go_p rfl rfl rfl (o_assign rfl) ?_
              refine go_nil ?_
              refine g_ret ?_
              obtain rfl := some_eq hj1
              replace hm1 := on_ret hm1
              exact retK (ret_one' rfl (ret_tmp rfl) (perm_drop _)) (congrArg (fun (p : Bool) => (.bool p : D)) (some_eq hm1))
            ·
              skip
              rcases cond_split hj1 with ⟨hg_6, hj1⟩ | ⟨hg_6, hj1⟩
              ·
                skip
                refine g_draw 32 Try_mixed (by decide +kernel) ?_
                refine gd_p rfl rfl rfl (o_load_box_agg 0 Try.isAgg28 Try.sizeOf28 rfl rfl rfl rfl (Nat.le_of_ble_eq_true rfl)) ?_
                refine gd_p rfl rfl rfl (o_move rfl) ?_
                refine gd_p rfl rfl rfl (o_move rfl) ?_
                refine gd_p rfl rfl rfl (o_indexAddr_m Try.runUnderlying23 Try.sizeOf28 rfl rfl hx11) ?_
                refine gd_p rfl rfl rfl (o_load_agg Try.isAgg28 Try.sizeOf28 rfl rfl) ?_
                refine gd_p rfl rfl rfl (o_neqagg (ks := [.int, .str, .int, .int]) Try.underlying28 (by kernel_rfl) (by kernel_rfl) (eqf_28 _ Try.underlying28) rfl rfl rfl) ?_
                refine gd_p rfl rfl rfl (o_move rfl) ?_
                refine gd_want rfl rfl rfl hg_5 rfl rfl (o_fieldAddr_box fi_28_3 rfl) ?_
                refine gd_want rfl rfl rfl hg_5 rfl rfl (o_load_box 0 Try.isAgg3 rfl rfl rfl rfl) ?_
                refine gd_want rfl rfl rfl hg_5 rfl rfl (o_cmp rfl rfl rfl) ?_
                refine gd_p rfl rfl rfl (o_pickF rfl hg_5 rfl) ?_
                refine gd_p rfl rfl rfl (o_move rfl) ?_
                refine gd_skip rfl rfl rfl hg_6 rfl rfl ?_
                refine gd_skip rfl rfl rfl hg_6 rfl rfl ?_
                refine gd_skip rfl rfl rfl hg_6 rfl rfl ?_
                refine gd_skip rfl rfl rfl hg_6 rfl rfl ?_
                refine gd_p rfl rfl rfl (o_pickT rfl hg_6 rfl) ?_
                refine gd_p rfl rfl rfl (o_move rfl) ?_
                refine gd_skip rfl rfl rfl rfl rfl rfl ?_
                refine gd_skip rfl rfl rfl rfl rfl rfl ?_
                refine gd_skip rfl rfl rfl rfl rfl rfl ?_
                refine gd_skipu rfl rfl rfl rfl rfl ?_
                refine gd_skipu rfl rfl rfl rfl rfl ?_
                refine gd_skipu rfl rfl rfl rfl rfl ?_
                refine gd_skipu rfl rfl rfl rfl rfl ?_
                refine gd_skipu rfl rfl rfl rfl rfl ?_
                refine gd_skipu rfl rfl rfl rfl rfl ?_
                refine gd_skipu rfl rfl rfl rfl rfl ?_
                refine gd_skipu rfl rfl rfl rfl rfl ?_
                refine gd_skipu rfl rfl rfl rfl rfl ?_
                refine gd_skip rfl rfl rfl rfl rfl rfl ?_
                refine gd_p rfl rfl rfl (o_pickT rfl rfl rfl) ?_
                refine gd_nil ?_
                refine go_nil ?_
                refine g_cond_true rfl rfl ?_
                refine g_seq ?_
                refine g_region ?_
                refine go_p rfl rfl rfl (o_assign rfl) ?_
                refine go_nil ?_
                refine g_ret ?_
                obtain rfl := some_eq hj1
                replace hm1 := on_ret hm1
                exact retK (ret_one' rfl (ret_tmp rfl) (perm_drop _)) (congrArg (fun (p : Bool) => (.bool p : D)) (some_eq hm1))
              ·
                skip
                rcases cond_split hj1 with ⟨hg_7, hj1⟩ | ⟨hg_7, hj1⟩
                ·
                  skip
                  refine g_draw 32 Try_mixed (by decide +kernel) ?_
                  refine gd_p rfl rfl rfl (o_load_box_agg 0 Try.isAgg28 Try.sizeOf28 rfl rfl rfl rfl (Nat.le_of_ble_eq_true rfl)) ?_
                  refine gd_p rfl rfl rfl (o_move rfl) ?_
                  refine gd_p rfl rfl rfl (o_move rfl) ?_
                  refine gd_p rfl rfl rfl (o_indexAddr_m Try.runUnderlying23 Try.sizeOf28 rfl rfl hx11) ?_
                  refine gd_p rfl rfl rfl (o_load_agg Try.isAgg28 Try.sizeOf28 rfl rfl) ?_
                  refine gd_p rfl rfl rfl (o_neqagg (ks := [.int, .str, .int, .int]) Try.underlying28 (by kernel_rfl) (by kernel_rfl) (eqf_28 _ Try.underlying28) rfl rfl rfl) ?_
                  refine gd_p rfl rfl rfl (o_move rfl) ?_
                  refine gd_want rfl rfl rfl hg_5 rfl rfl (o_fieldAddr_box fi_28_3 rfl) ?_
                  refine gd_want rfl rfl rfl hg_5 rfl rfl (o_load_box 0 Try.isAgg3 rfl rfl rfl rfl) ?_
                  refine gd_want rfl rfl rfl hg_5 rfl rfl (o_cmp rfl rfl rfl) ?_
                  refine gd_p rfl rfl rfl (o_pickF rfl hg_5 rfl) ?_
                  refine gd_p rfl rfl rfl (o_move rfl) ?_
                  refine gd_want rfl rfl rfl hg_6 rfl rfl (o_fieldAddr_box fi_28_3 rfl) ?_
                  refine gd_want rfl rfl rfl hg_6 rfl rfl (o_load_box 0 Try.isAgg3 rfl rfl rfl rfl) ?_
                  refine gd_want rfl rfl rfl hg_6 rfl rfl (o_move rfl) ?_
                  refine gd_want rfl rfl rfl hg_6 rfl rfl (o_cmp rfl rfl rfl) ?_
                  refine gd_p rfl rfl rfl (o_pickF rfl hg_6 rfl) ?_
                  refine gd_p rfl rfl rfl (o_move rfl) ?_
                  refine gd_skip rfl rfl rfl hg_7 rfl rfl ?_
                  refine gd_skip rfl rfl rfl hg_7 rfl rfl ?_
                  refine gd_skip rfl rfl rfl hg_7 rfl rfl ?_
                  refine gd_skipu rfl rfl rfl rfl rfl ?_
                  refine gd_skipu rfl rfl rfl rfl rfl ?_
                  refine gd_skipu rfl rfl rfl rfl rfl ?_
                  refine gd_skipu rfl rfl rfl rfl rfl ?_
                  refine gd_skipu rfl rfl rfl rfl rfl ?_
                  refine gd_skipu rfl rfl rfl rfl rfl ?_
                  refine gd_skipu rfl rfl rfl rfl rfl ?_
                  refine gd_skipu rfl rfl rfl rfl rfl ?_
                  refine gd_skipu rfl rfl rfl rfl rfl ?_
                  refine gd_skip rfl rfl rfl hg_7 rfl rfl ?_
                  refine gd_p rfl rfl rfl (o_pickT rfl hg_7 rfl) ?_
                  refine gd_nil ?_
                  refine go_nil ?_
                  refine g_cond_true rfl rfl ?_
                  refine g_seq ?_
                  refine g_region ?_
                  refine go_p rfl rfl rfl (o_assign rfl) ?_
                  refine go_nil ?_
                  refine g_ret ?_
                  obtain rfl := some_eq hj1
                  replace hm1 := on_ret hm1
                  exact retK (ret_one' rfl (ret_tmp rfl) (perm_drop _)) (congrArg (fun (p : Bool) => (.bool p : D)) (some_eq hm1))
                ·
                  skip
                  rcases cond_split hj1 with ⟨hg_8, hj1⟩ | ⟨hg_8, hj1⟩
                  ·
                    skip
                    obtain ⟨hg12, hj1⟩ := grd_some hj1
                    obtain ⟨x13, hx13, hj1⟩ := bind_some hj1
                    refine g_draw 32 Try_mixed (by decide +kernel) ?_
                    refine gd_p rfl rfl rfl (o_load_box_agg 0 Try.isAgg28 Try.sizeOf28 rfl rfl rfl rfl (Nat.le_of_ble_eq_true rfl)) ?_
                    refine gd_p rfl rfl rfl (o_move rfl) ?_
                    refine gd_p rfl rfl rfl (o_move rfl) ?_
                    refine gd_p rfl rfl rfl (o_indexAddr_m Try.runUnderlying23 Try.sizeOf28 rfl rfl hx11) ?_
                    refine gd_p rfl rfl rfl (o_load_agg Try.isAgg28 Try.sizeOf28 rfl rfl) ?_
                    refine gd_p rfl rfl rfl (o_neqagg (ks := [.int, .str, .int, .int]) Try.underlying28 (by kernel_rfl) (by kernel_rfl) (eqf_28 _ Try.underlying28) rfl rfl rfl) ?_
                    refine gd_p rfl rfl rfl (o_move rfl) ?_
                    refine gd_want rfl rfl rfl hg_5 rfl rfl (o_fieldAddr_box fi_28_3 rfl) ?_
                    refine gd_want rfl rfl rfl hg_5 rfl rfl (o_load_box 0 Try.isAgg3 rfl rfl rfl rfl) ?_
                    refine gd_want rfl rfl rfl hg_5 rfl rfl (o_cmp rfl rfl rfl) ?_
                    refine gd_p rfl rfl rfl (o_pickF rfl hg_5 rfl) ?_
                    refine gd_p rfl rfl rfl (o_move rfl) ?_
                    refine gd_want rfl rfl rfl hg_6 rfl rfl (o_fieldAddr_box fi_28_3 rfl) ?_
                    refine gd_want rfl rfl rfl hg_6 rfl rfl (o_load_box 0 Try.isAgg3 rfl rfl rfl rfl) ?_
                    refine gd_want rfl rfl rfl hg_6 rfl rfl (o_move rfl) ?_
                    refine gd_want rfl rfl rfl hg_6 rfl rfl (o_cmp rfl rfl rfl) ?_
                    refine gd_p rfl rfl rfl (o_pickF rfl hg_6 rfl) ?_
                    refine gd_p rfl rfl rfl (o_move rfl) ?_
                    refine gd_want rfl rfl rfl hg_7 rfl rfl (o_move rfl) ?_
                    refine gd_want rfl rfl rfl hg_7 rfl rfl (o_cmp rfl rfl rfl) ?_
                    refine gd_want rfl rfl rfl hg_7 rfl rfl (o_move rfl) ?_
                    refine gd_want rfl rfl rfl hg_8 rfl rfl (o_fieldAddr_box fi_28_3 rfl) ?_
                    refine gd_want rfl rfl rfl hg_8 rfl rfl (o_load_box 0 Try.isAgg3 rfl rfl rfl rfl) ?_
                    refine gd_want rfl rfl rfl hg_8 rfl rfl (o_move rfl) ?_
                    refine gd_want rfl rfl rfl hg_8 rfl rfl (o_move rfl) ?_
                    refine gd_want rfl rfl rfl hg_8 rfl rfl (o_sub rfl rfl (i64_id hg12)) ?_
                    refine gd_want rfl rfl rfl hg_8 rfl rfl (o_indexAddr_m Try.runUnderlying23 Try.sizeOf28 rfl rfl hx13) ?_
                    refine gd_want rfl rfl rfl hg_8 rfl rfl (o_fieldAddr fi_28_3 rfl rfl rfl) ?_
                    refine gd_want rfl rfl rfl hg_8 rfl rfl (o_load Try.isAgg3 rfl rfl) ?_
                    refine gd_want rfl rfl rfl hg_8 rfl rfl (o_cmp rfl rfl rfl) ?_
                    refine gd_want rfl rfl rfl hg_7 rfl rfl (o_pickT rfl hg_8 rfl) ?_
                    refine gd_p rfl rfl rfl (o_pickF rfl hg_7 rfl) ?_
                    refine gd_nil ?_
                    refine go_nil ?_
                    refine g_cond rfl (fun hc5 => ?_) (fun hc5 => ?_)
                    · replace hj1 := cond_t hc5 hj1
                      refine g_seq ?_
                      refine g_region ?_
                      refine go_p rfl rfl rfl (o_assign rfl) ?_
                      refine go_nil ?_
                      refine g_ret ?_
                      obtain rfl := some_eq hj1
                      replace hm1 := on_ret hm1
                      exact retK (ret_one' rfl (ret_tmp rfl) (perm_drop _)) (congrArg (fun (p : Bool) => (.bool p : D)) (some_eq hm1))
                    · replace hj1 := cond_f hc5 hj1
                      refine g_skip ?_
                      refine g_region ?_
                      refine go_p rfl rfl rfl (o_move rfl) ?_
                      obtain ⟨hg14, hj1⟩ := grd_some hj1
                      refine go_p rfl rfl rfl (o_add rfl rfl (i64_id hg14)) ?_
                      refine go_p rfl rfl rfl (o_assign rfl) ?_
                      refine go_nil ?_
                      exact ⟨_, (), hj1, ⟨rfl, trivial⟩, ⟨rfl, rfl, rfl, trivial⟩, [_], rfl⟩
                  ·
                    skip
                    refine g_draw 32 Try_mixed (by decide +kernel) ?_
                    refine gd_p rfl rfl rfl (o_load_box_agg 0 Try.isAgg28 Try.sizeOf28 rfl rfl rfl rfl (Nat.le_of_ble_eq_true rfl)) ?_
                    refine gd_p rfl rfl rfl (o_move rfl) ?_
                    refine gd_p rfl rfl rfl (o_move rfl) ?_
                    refine gd_p rfl rfl rfl (o_indexAddr_m Try.runUnderlying23 Try.sizeOf28 rfl rfl hx11) ?_
                    refine gd_p rfl rfl rfl (o_load_agg Try.isAgg28 Try.sizeOf28 rfl rfl) ?_
                    refine gd_p rfl rfl rfl (o_neqagg (ks := [.int, .str, .int, .int]) Try.underlying28 (by kernel_rfl) (by kernel_rfl) (eqf_28 _ Try.underlying28) rfl rfl rfl) ?_
                    refine gd_p rfl rfl rfl (o_move rfl) ?_
                    refine gd_want rfl rfl rfl hg_5 rfl rfl (o_fieldAddr_box fi_28_3 rfl) ?_
                    refine gd_want rfl rfl rfl hg_5 rfl rfl (o_load_box 0 Try.isAgg3 rfl rfl rfl rfl) ?_
                    refine gd_want rfl rfl rfl hg_5 rfl rfl (o_cmp rfl rfl rfl) ?_
                    refine gd_p rfl rfl rfl (o_pickF rfl hg_5 rfl) ?_
                    refine gd_p rfl rfl rfl (o_move rfl) ?_
                    refine gd_want rfl rfl rfl hg_6 rfl rfl (o_fieldAddr_box fi_28_3 rfl) ?_
                    refine gd_want rfl rfl rfl hg_6 rfl rfl (o_load_box 0 Try.isAgg3 rfl rfl rfl rfl) ?_
                    refine gd_want rfl rfl rfl hg_6 rfl rfl (o_move rfl) ?_
                    refine gd_want rfl rfl rfl hg_6 rfl rfl (o_cmp rfl rfl rfl) ?_
                    refine gd_p rfl rfl rfl (o_pickF rfl hg_6 rfl) ?_
                    refine gd_p rfl rfl rfl (o_move rfl) ?_
                    refine gd_want rfl rfl rfl hg_7 rfl rfl (o_move rfl) ?_
                    refine gd_want rfl rfl rfl hg_7 rfl rfl (o_cmp rfl rfl rfl) ?_
                    refine gd_want rfl rfl rfl hg_7 rfl rfl (o_move rfl) ?_
                    refine gd_skip rfl rfl rfl hg_8 rfl rfl ?_
                    refine gd_skip rfl rfl rfl hg_8 rfl rfl ?_
                    refine gd_skip rfl rfl rfl hg_8 rfl rfl ?_
                    refine gd_skip rfl rfl rfl hg_8 rfl rfl ?_
                    refine gd_skip rfl rfl rfl hg_8 rfl rfl ?_
                    refine gd_skip rfl rfl rfl hg_8 rfl rfl ?_
                    refine gd_skip rfl rfl rfl hg_8 rfl rfl ?_
                    refine gd_skip rfl rfl rfl hg_8 rfl rfl ?_
                    refine gd_skip rfl rfl rfl hg_8 rfl rfl ?_
                    refine gd_want rfl rfl rfl hg_7 rfl rfl (o_pickF rfl hg_8 rfl) ?_
                    refine gd_p rfl rfl rfl (o_pickF rfl hg_7 rfl) ?_
                    refine gd_nil ?_
                    refine go_nil ?_
                    refine g_cond_false rfl rfl ?_
                    refine g_skip ?_
                    refine g_region ?_
                    refine go_p rfl rfl rfl (o_move rfl) ?_
                    obtain ⟨hg15, hj1⟩ := grd_some hj1
                    refine go_p rfl rfl rfl (o_add rfl rfl (i64_id hg15)) ?_
                    refine go_p rfl rfl rfl (o_assign rfl) ?_
                    refine go_nil ?_
                    exact ⟨_, (), hj1, ⟨rfl, trivial⟩, ⟨rfl, rfl, rfl, trivial⟩, [_], rfl⟩
          · replace hj1 := cond_f hc4 hj1
            refine g_exit ?_
            exact ⟨_, (), some_eq hj1, trivial, ⟨rfl, rfl, trivial⟩, [], rfl⟩
        · rintro ⟨z1, z2⟩ _ hst
          subst hst
          replace hm1 := on_go hm1
          refine k_norm (L' := [(5, _), (7, _)]) (ms' := [box b1 92 [.list 4 ApiToken.d z1, .i64 z2]]) rfl rfl ?_
          refine g_seq ?_
          refine g_region ?_
          refine go_p rfl rfl rfl (o_move rfl) ?_
          obtain ⟨x14, hx16, hm1⟩ := bind_some hm1
          refine go_op rfl rfl rfl (o_call_own [0] Try.call23 rfl rfl (getL_c rfl getL_n) (w_rd_Done hx16) (by rintro _ _ ⟨rfl, rfl⟩; rfl)) ?_
          rintro _ _ ⟨_, ⟨rfl, rfl⟩, rfl⟩
          refine go_ms (ms' := [box b1 92 [_, _]]) rfl ?_
          refine go_p rfl rfl rfl (o_move rfl) ?_
          rcases cond_split hm1 with ⟨hg_9, hm1⟩ | ⟨hg_9, hm1⟩
          · skip
            refine go_wantp rfl rfl rfl hg_9 rfl rfl (o_move rfl) ?_
            obtain ⟨⟨x15, s4⟩, hx17, hm1⟩ := bind_some hm1
            refine go_want rfl rfl rfl hg_9 rfl rfl (o_call_own [0] Try.call20 rfl rfl (getL_c rfl getL_n) (w_rd_Next hx17) (by rintro _ _ ⟨rfl, rfl⟩; rfl)) ?_
            rintro _ _ ⟨_, ⟨rfl, rfl⟩, rfl⟩
            refine go_ms (ms' := [box b1 92 [_, _]]) rfl ?_
            refine go_wantp rfl rfl rfl hg_9 rfl rfl (o_move rfl) ?_
            refine go_wantp rfl rfl rfl hg_9 rfl rfl (o_build (zs := [.v (.int .i64 0), .str [], .v (.int .i64 0), .v (.int .i64 0)]) Try.runUnderlying28 Try.zeroValue28 (pl_28 _ Try.runUnderlying28) rfl rfl rfl rfl) ?_
            refine go_wantp rfl rfl rfl hg_9 rfl rfl (o_eqagg (ks := [.int, .str, .int, .int]) Try.underlying28 (by kernel_rfl) (by kernel_rfl) (eqf_28 _ Try.underlying28) rfl rfl rfl) ?_
            refine go_p rfl rfl rfl (o_pickT rfl hg_9 rfl) ?_
            refine go_p rfl rfl rfl (o_assign rfl) ?_
            refine go_nil ?_
            refine g_ret ?_
            exact retK (ret_one' rfl (ret_tmp rfl) (perm_drop _)) (congrArg (fun (p : Bool) => (.bool p : D)) (some_eq hm1))
          · skip
            refine go_skip rfl rfl rfl hg_9 rfl rfl ?_
            refine go_skip rfl rfl rfl hg_9 rfl rfl ?_
            refine go_skip rfl rfl rfl hg_9 rfl rfl ?_
            refine go_skip rfl rfl rfl hg_9 rfl rfl ?_
            refine go_skip rfl rfl rfl hg_9 rfl rfl ?_
            refine go_p rfl rfl rfl (o_pickF rfl hg_9 rfl) ?_
            refine go_p rfl rfl rfl (o_assign rfl) ?_
            refine go_nil ?_
            refine g_ret ?_
            exact retK (ret_one' rfl (ret_tmp rfl) (perm_drop _)) (congrArg (fun (p : Bool) => (.bool p : D)) (some_eq hm1))
end Go.Proofs.Ytnnjgbcojdnhhaa
