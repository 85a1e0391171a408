/- Part 3 of the proof: a program logic, what the functions compute, and what these answer; no condition. -/
import Derived.Test.YtafphfokopkhdaaGreatp2
import Derived.Shelf.SlicesE.DeleteFunc
set_option linter.unusedVariables false
set_option linter.unusedSimpArgs false
namespace Go.V
open Go.Sort Go.Proofs
theorem lookup_run {P : Program} {t kt et : TypeId} {α : Type} [DecidableEq α] {fk : α → Value} {H : PH} {mb clock : Nat} {es : Array MapEntry} {l : List (α × Bool)} {w : World} (key : α) (hu : ∀ w, (underlying t).run P w = .ok (.map kt et) w) (hk : KeyOk P kt fk) (hz : ∀ w, (zeroValue et).run P w = .ok (.bool false) w)
    (h1 : w.heap[mb]? = some (.map es clock)) (h2 : MapOk fk D.bool H l es.toList) : (Instr.lookup t (.map (some mb)) (fk key) false).run P w = .ok (.bool ((mget l key).getD false)) w := by
  have hf := findKey_run (w := w) hk key h2
  cases hg : mget l key with
  | none =>
    rw [hg] at hf
    simp only at hf
    simp [Instr.lookup, hu, getObj, h1, Sem.run_bind, hk.ck, hf.1, hz, Sem.run]
  | some b' =>
    rw [hg] at hf
    simp only at hf
    obtain ⟨j, e, q1, _, _, q4, _⟩ := hf
    have hv := conc_v.1 q4
    simp [Instr.lookup, hu, getObj, h1, Sem.run_bind, hk.ck, q1, hz, Sem.run, hv]
theorem fn_delete {P : Program} {f g : Nat} {T : TypeId} (eg : ∀ args w, (callFunc g args).run P w = .ok (.enter g args) w)
    (hS : ∀ (lb : Array Value) (p : Int → Bool) (blk off cap : Nat) (d : Array Int) (w : World), PredAt P g lb (Value.int .i64) p w → PredOver P g lb (Value.int .i64) p blk off d.size w → Holds (Value.int .i64) w blk off d → d.size ≤ 9223372036854775807 → d.size ≤ cap →
      Calls P f #[.slice (some ⟨blk, off, none⟩) d.size cap, .func (.func g) #[] lb] w fun e w' => e = .returned (.slice (some ⟨blk, off, none⟩) (d.toList.filter fun x => !p x).length cap) ∧ ∃ q, w' = putRow (Value.int .i64) (Sort.ahead w q) blk off ((d.toList.filter fun x => !p x) ++ List.replicate (d.size - (d.toList.filter fun x => !p x).length) 0).toArray)
    (h0 : ∀ (a : Option Addr) (cap : Nat) (fv : Value) (w : World), Calls P f #[.slice a 0 cap, fv] w fun e w' => e = .returned (.slice a 0 cap) ∧ w' = w)
    (hc : ∀ (x : Int) (pb po mb clock : Nat) (es : Array MapEntry) (H : PH) (mm : List (Int × Bool)) (W : World), W.cell? ⟨pb, po, none⟩ = some (.map (some mb)) → W.heap[mb]? = some (.map es clock) → MapOk kI64 D.bool H mm es.toList → FnGives P g #[.pointer (some ⟨pb, po, none⟩)] #[.int .i64 x] (.bool ((mget mm x).getD false)) W)
    {a : Option Addr} {m cap mb : Nat} {l : List Int} {mm : List (Int × Bool)} :
    Fn P f [.v (.slice a m cap), .clo (.func g) [] [.ref (.v (.map (some mb)))]] [arr a m cap T 1 D.i64 l, mp mb kI64 D.bool mm] (fun d ms' => ∃ m', d = .v (.slice a m' cap) ∧ ms' = [arr a m' cap T 1 D.i64 (l.filter fun x => !(mget mm x).getD false), mp mb kI64 D.bool mm]) := by
  intro H fr w vs hok hargs
  simp only [ConcL] at hargs
  obtain ⟨u, r, rfl, hu, u2, r2, rfl, hu2, rfl⟩ := hargs
  have hu' := conc_v.1 (show Conc H (.v (.slice a m cap)) u from hu)
  subst hu'
  have hu2 := (conc_enc (by rfl)).1 (show Conc H (.clo (.func g) [] [.ref (.v (.map (some mb)))]) u2 from hu2)
  simp only [Enc, ConcL] at hu2
  obtain ⟨us, ws, hv, hus, pv, r3, hws, hpv, hr3⟩ := hu2
  subst hus hws hr3
  have hpv := (conc_enc (by rfl)).1 (show Conc H (.ref (.v (.map (some mb)))) pv from hpv)
  simp only [Enc] at hpv
  obtain ⟨pb, po, cs, hpv, hcs, hcell⟩ := hpv
  subst hcs
  have hpv : pv = .pointer (some ⟨pb, po, none⟩) := by simpa using hpv
  subst hpv
  have hv : u2 = .func (.func g) #[] #[.pointer (some ⟨pb, po, none⟩)] := by simpa using hv
  subst hv
  have hHc : H pb po = some (.map (some mb)) := by have := hcell 0 _ rfl; rwa [Nat.add_zero] at this
  have hwc := hok.sub _ _ _ hHc
  obtain ⟨r0, r1, r2, r3⟩ := hok.ok (arr a m cap T 1 D.i64 l) (by simp)
  obtain ⟨⟨es, clock, hmb, hmo, _⟩, hmn⟩ := hok.ok (mp mb kI64 D.bool mm) (by simp)
  have hmb : w.heap[mb]? = some (.map es clock) := hmb
  have hmlt : mb < w.heap.size := hok.lt (mp mb kI64 D.bool mm) (by simp) mb (by simp [mp])
  subst r0
  rcases r3 with ⟨rfl, rfl, rfl⟩ | ⟨b, ws, us, rfl, hb, hwl, he, htk, hn⟩
  · refine (h0 none 0 _ w).mono ?_
    rintro e w' ⟨rfl, rfl⟩
    exact ⟨_, _, _, H, rfl, ⟨0, rfl, rfl⟩, PH.le_refl H, (show HeapOk H ([arr none 0 0 T 1 D.i64 [], mp mb kI64 D.bool mm] ++ fr) w' from hok), conc_v.2 rfl, SameOut.refl w'⟩
  · have hus := ints_us he
    have hH : Holds (Value.int .i64) w b 0 l.toArray := holds_of_blockI (cur := ws.toArray) hb (by rw [← hus, ← htk, Nat.mul_one])
    have hpb : pb ≠ b := by intro e; subst e; rw [hn] at hHc; cases hHc
    have hmne : mb ≠ b := by
      intro e
      subst e
      have hb' : w.heap[mb]? = some (.cells ws.toArray T (0, 0)) := hb
      rw [hb'] at hmb
      cases hmb
    have hpl : pb < w.heap.size := by
      rcases Nat.lt_or_ge pb w.heap.size with h | h
      · exact h
      · simp [World.cell?, Array.getElem?_eq_none h] at hwc
    have hb2 : b < w.heap.size := (Array.getElem?_eq_some_iff.1 hb).1
    have hpa : PredAt P g #[.pointer (some ⟨pb, po, none⟩)] (Value.int .i64) (fun x => (mget mm x).getD false) w := by
      intro W x hB
      exact hc x pb po mb clock es H mm W (by rw [hB.cell hpl]; exact hwc) (by rw [hB.block mb hmlt]; exact hmb) hmo
    have hpo : PredOver P g #[.pointer (some ⟨pb, po, none⟩)] (Value.int .i64) (fun x => (mget mm x).getD false) b 0 l.toArray.size w := by
      intro n os dk x hdk
      have hg : w.grownBy (grow (putRow (Value.int .i64) (Sort.ahead w n) b 0 dk) os) (some b) := grownBy_sortedI dk
      obtain ⟨g1, g2, g3, g4, g5⟩ := hg
      have hold : ∀ k, k < w.heap.size → k ≠ b → (sortWorld (Value.int .i64) w b 0 n dk os).heap[k]? = w.heap[k]? := fun k hk hne => g5 k hk (fun e => hne (by simp at e; exact e))
      refine hc x pb po mb clock es H mm _ ?_ (by rw [hold mb hmlt hmne]; exact hmb) hmo
      have h1 := hold pb hpl hpb
      rw [← hwc]
      exact World.cell?_of_block (w := w) h1
    have hsz : l.toArray.size = l.length := by simp
    have hcall := hS #[.pointer (some ⟨pb, po, none⟩)] (fun x => (mget mm x).getD false) b 0 cap l.toArray w hpa hpo hH (by rw [hsz]; simp only [maxLen] at r2; omega) (by rw [hsz]; exact r1)
    rw [hsz] at hcall
    refine hcall.mono ?_
    rintro e w' ⟨rfl, n, rfl⟩
    have hfl := List.length_filter_le (fun x => !(mget mm x).getD false) l
    have hp := arr_put (n := n) (os := #[]) (r := l.filter fun x => !(mget mm x).getD false) (d := ((l.filter fun x => !(mget mm x).getD false) ++ List.replicate (l.length - (l.filter fun x => !(mget mm x).getD false).length) 0).toArray) hok hb hwl (by simp; omega) (by simp) hfl
    rw [grow_empty] at hp
    exact ⟨_, _, _, H, rfl, ⟨_, rfl, rfl⟩, PH.le_refl H, hp.1, conc_v.2 rfl, hp.2⟩
end Go.V
