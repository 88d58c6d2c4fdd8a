/-
  base.Decode walked: letters as bytes, or refused. By the session itself.
-/
import Derived.Test.YthdbppggnkfgjaaDoorBaC
namespace Go.Proofs.YthdbppggnkfgjaaDoor
set_option linter.unusedSimpArgs false
set_option linter.unusedVariables false
set_option maxRecDepth 100000
set_option maxHeartbeats 1000000
open Go.Vc Go.RowKit

theorem kp_iterAt (w : World) (k : Nat) (s : ByteArray) (p : Nat) : Kp (At k) w (w.iterAt k s p) := ⟨rfl, rfl, rfl, by rw [Lib.iterAt_size]; exact Nat.le_refl _, fun i _ hn => Lib.iterAt_other w k i s p hn⟩
/-- What Decode hands back. -/
def DecR (v : Value) (w' : World) (s : List UInt8) (B : Nat) : Prop := ∃ va, v = .tuple #[va, i64 (if (decB s).isSome then 0 else 3)] ∧ Bs w' va ((decB s).getD []) B
theorem decR_none {v : Value} {w' : World} {s : List UInt8} {B : Nat} (h : decB s = none) (hv : v = .tuple #[.slice none 0 0, i64 3]) : DecR v w' s B := ⟨_, hv.trans (by rw [h]; rfl), by rw [h]; exact Bs.nil _ _⟩
theorem decB_fail {s : List UInt8} {p : Nat} {d : DS} (hd : dall ((trimR s).take p) (0, 0, []) = some d) (hp : p < (trimR s).length) (hi : idx ((trimR s)[p]) < 0) : decB s = none := by
  have h : dall (trimR s) (0, 0, []) = none := by
    conv => lhs; rw [← List.take_append_drop p (trimR s)]
    rw [dall_app, hd, List.drop_eq_getElem_cons hp]
    simp [dall, hi]
  unfold decB
  rw [h]
theorem dall_step {u : List UInt8} {p : Nat} {d : DS} (hd : dall (u.take p) (0, 0, []) = some d) (hp : p < u.length) (hi : ¬ idx (u[p]) < 0) : dall (u.take (p + 1)) (0, 0, []) = some (dstep d (idx u[p]).toNat) := by
  rw [List.take_succ_eq_append_getElem hp, dall_app, hd]
  simp [dall, hi]
theorem trimR_le (s : List UInt8) : (trimR s).length ≤ s.length := by
  unfold trimR
  rw [List.length_reverse]
  have := (List.dropWhile_sublist (l := s.reverse) (fun c : UInt8 => c == 61)).length_le
  simpa using this
theorem dstep_inv {d : DS} {k : Nat} (hk : k < 64) (h1 : d.1 < 2 ^ d.2.1) (h2 : d.2.1 ≤ 7) : (dstep d k).1 < 2 ^ (dstep d k).2.1 ∧ (dstep d k).2.1 ≤ 7 ∧ (dstep d k).2.2.length ≤ d.2.2.length + 1 := by
  unfold dstep
  split
  · rename_i h
    exact ⟨Nat.mod_lt _ (Nat.two_pow_pos _), by simp only; omega, by simp⟩
  · rename_i h
    have : d.2.1 = 0 ∨ d.2.1 = 1 := by omega
    rcases this with e | e <;> (rw [e] at h1 ⊢; simp at h1 ⊢; omega)

theorem decode_spec (s : List UInt8) (w : World) (hl : s.length ≤ 536870912) :
    Cal Tryd.prog 9 #[stL s] w fun v w' => DecR v w' s w.heap.size ∧ Nw w w' := by
  refine enter Tryd.mixed Tryd.func9 rfl (by kernel_rfl) ?_
  simp -dsimp [go_sem]
  refine call (trimRight_spec s w (by omega)) ?_
  rintro v w0 ⟨rfl, rfl⟩
  have htl := trimR_le s
  simp -dsimp [go_sem]
  obtain ⟨u, hu⟩ : ∃ u, u = trimR s := ⟨_, rfl⟩
  obtain ⟨z, hz⟩ : ∃ z : ByteArray, z = ⟨u.toArray⟩ := ⟨_, rfl⟩
  rw [← hu] at htl ⊢
  rw [← hz]
  have hzs : z.size = u.length := by rw [hz, Lib.size_mk]
  obtain ⟨g, hg⟩ : ∃ g, g = w0.heap.size := ⟨_, rfl⟩
  have n0 : Nw w0 (w0.iter z 0) := (Kp.refl _ _).alloc _
  have h0 : (w0.iter z 0).heap[g]? = some (.stringIter z 0) := by rw [hg]; exact World.iter_heap _ _ _
  have hs0 : g + 1 ≤ (w0.iter z 0).heap.size := by rw [hg]; simp [World.iter]
  rw [← hg]
  generalize w0.iter z 0 = wi at *
  refine loop [2, 3, 4, 5, 6, 8, 9, 13, 14, 15, 16, 17, 18, 19, 20, 21, 22, 23, 24, 25, 26, 27, 28, 29, 30, 31, 32, 33, 34, 35, 36, 37, 38, 39, 40, 41, 42] (by kernel_rfl)
    (fun f w' => Box3 (fun a b c w' => ∃ (p : Nat) (d : DS), p ≤ u.length ∧ w'.heap[g]? = some (.stringIter z p) ∧ dall (u.take p) (0, 0, []) = some d ∧ a = .int .u64 d.1 ∧ b = i64 d.2.1 ∧ Bs w' c d.2.2 (g + 1) ∧ d.1 < 2 ^ d.2.1 ∧ d.2.1 ≤ 7 ∧ d.2.2.length ≤ p ∧ Nw w0 w' ∧ g + 1 ≤ w'.heap.size) (f 5) (f 6) (f 4) w')
    (fun f w' => u.length - w'.iterPos g) ⟨0, (0, 0, []), by omega, h0, rfl, rfl, rfl, Bs.nil _ _, by decide, by decide, by simp, n0, hs0⟩ ?_
  rintro f w1 ⟨p, d, hp, hit, hd, f5, f6, hB, hd1, hd2, hdl, hk, hs1⟩
  by_cases hlt : p < u.length
  · have hltz : p < z.size := by omega
    have hn := fun ty => Lib.run_next_any_at (P := Tryd.prog) w1 g z p ty hit hltz
    have hle := decode_le z p
    have hlow : ∀ h : p < z.size, (z[p]'h) = u[p] := fun h => by
      have h2 := Lib.getElem_mk u p (by rw [Lib.size_mk]; exact hlt)
      rw [List.getElem?_eq_getElem hlt] at h2
      simp only [hz]
      exact (Option.some.inj h2).symm
    have hdec : ((Utf8.decode z p).1 < 128 → (Utf8.decode z p) = (u[p].toNat, 1) ∧ u[p].toNat < 128) ∧ (¬ (Utf8.decode z p).1 < 128 → 128 ≤ u[p].toNat) := by
      by_cases hc : (z[p]'hltz).toNat < 128
      · have := decode_ascii z p hltz hc
        rw [this, hlow] at *
        exact ⟨fun _ => ⟨rfl, hc⟩, fun h => absurd hc h⟩
      · have := decode_high z p hltz (by omega)
        rw [hlow] at *
        exact ⟨fun h => by omega, fun _ => by omega⟩
    generalize Utf8.decode z p = rq at *
    obtain ⟨r, q⟩ := rq
    simp only at hn hle hdec
    have ki := kp_iterAt w1 g z (p + q)
    simp -dsimp [go_sem, hn]
    refine call (indexRune_spec r _ hle) ?_
    rintro v w2 ⟨rfl, hk2⟩
    have hk02 : Nw w0 (w1.iterAt g z (p + q)) := hk.at_ ki (fun i (e : i = g) => by omega)
    have n2 := hk02.nw hk2
    by_cases hr : r < 128
    · obtain ⟨e1, hc⟩ := hdec.1 hr
      cases e1
      rw [if_pos hr]
      have hcu : (u[p].toNat).toUInt8 = u[p] := by simp
      rw [hcu]
      have h2it : w2.heap[g]? = some (.stringIter z (p + 1)) := hk2.heap (Lib.iterAt_heap w1 g z p (p + 1) hit) fun h => h
      have hB2 : Bs w2 (f 4) d.2.2 (g + 1) := (hB.kp ki fun i hi _ (e : i = g) => by omega).nw hk2
      have hs2 : g + 1 ≤ w2.heap.size := Nat.le_trans (Nat.le_trans hs1 ki.size) hk2.size
      by_cases hneg : idx u[p] < 0
      · simp -dsimp [go_sem, hneg]
        exact ⟨decR_none (decB_fail (p := p) (d := d) (by rw [← hu]; exact hd) (by rw [← hu]; exact hlt) (by simp only [← hu]; exact hneg)) rfl, n2⟩
      · have hstep := dall_step hd hlt hneg
        have hx64 := idx_lt u[p]
        obtain ⟨x, hx⟩ : ∃ x : Nat, idx u[p] = (x : Int) := ⟨(idx u[p]).toNat, by omega⟩
        rw [hx, Int.toNat_natCast] at hstep
        rw [hx] at hneg hx64 ⊢
        have hinv := dstep_inv (k := x) (by omega) hd1 hd2
        obtain ⟨n, b, o⟩ := d
        simp only at f5 f6 hd1 hd2 hdl hB2 hinv hstep
        have hn128 : n < 128 := Nat.lt_of_lt_of_le hd1 (Nat.le_trans (Nat.pow_le_pow_right (by omega) hd2) (by decide))
        have hsh : IntKind.u64.wrap ((n : Int) * 64) = ((n * 64 : Nat) : Int) := by rw [IntKind.wrap_u64]; omega
        have hcx : IntKind.u64.wrap (x : Int) = (x : Int) := by rw [IntKind.wrap_u64]; omega
        have hor : bits .or .u64 ((n * 64 : Nat) : Int) (x : Int) = ((n * 64 + x : Nat) : Int) := by
          rw [u64_or_nat _ _ (by omega) (by omega), nat_join 6 _ _ (by omega) (by omega)]
        have hb6 : IntKind.i64.wrap ((b : Int) + 6) = ((b + 6 : Nat) : Int) := by rw [w64 (by omega) (by omega)]; omega
        have hp1 : (w2.iterPos g) = p + 1 := by simp [World.iterPos, h2it]
        obtain ⟨m, hm⟩ : ∃ m, m = n * 64 + x := ⟨_, rfl⟩
        obtain ⟨b6, hb6'⟩ : ∃ b6, b6 = b + 6 := ⟨_, rfl⟩
        obtain ⟨n6, hn6⟩ : ∃ n6, n6 = n * 64 := ⟨_, rfl⟩
        have est : dstep (n, b, o) x = if 8 ≤ b6 then (m % 2 ^ (b6 - 8), b6 - 8, o ++ [(m / 2 ^ (b6 - 8) % 256).toUInt8]) else (m, b6, o) := by rw [hm, hb6']; rfl
        rw [← hm] at hor
        rw [← hb6'] at hb6
        rw [← hn6] at hsh hor
        by_cases h8 : 8 ≤ b6
        · rw [if_pos h8] at est
          rw [est] at hstep hinv
          have h8' : (8 : Int) ≤ (b6 : Int) := by omega
          have hb8 : IntKind.i64.wrap ((b6 : Int) - 8) = ((b6 - 8 : Nat) : Int) := by rw [w64 (by omega) (by omega)]; omega
          obtain ⟨b8, hb8'⟩ : ∃ b8, b8 = b6 - 8 := ⟨_, rfl⟩
          rw [← hb8'] at hb8 hstep hinv
          have hdv : (m : Int) / 2 ^ b8 = ((m / 2 ^ b8 : Nat) : Int) := by simp
          have hb64 : b8 ≤ 64 := by omega
          have hwb : IntKind.u8.wrap ((m / 2 ^ b8 : Nat) : Int) = ((m / 2 ^ b8 % 256 : Nat) : Int) := by rw [IntKind.wrap_u8']; omega
          obtain ⟨y, hy⟩ : ∃ y, y = m / 2 ^ b8 := ⟨_, rfl⟩
          rw [← hy] at hdv hwb hstep hinv
          obtain ⟨t, ht⟩ : ∃ t, t = y % 256 := ⟨_, rfl⟩
          rw [← ht] at hwb hstep hinv
          simp -dsimp [go_sem, hneg, f5, f6, hsh, hcx, hor, hb6, h8, h8', hb8, hdv, hb64, hwb]
          refine bs_push hB2 rfl (by omega) (by omega) hs2 ?_
          intro v4 w4 hB4 hk4
          have h4it : w4.heap[g]? = some (.stringIter z (p + 1)) := hk4.heap h2it (by show ¬ g + 1 ≤ g; omega)
          have hp4 : (w4.iterPos g) = p + 1 := by simp [World.iterPos, h4it]
          have hms : bits .and .u64 (m : Int) (IntKind.u64.wrap (IntKind.u64.wrap ((2 : Int) ^ b8) - 1)) = ((m % 2 ^ b8 : Nat) : Int) := by
            have e1 : IntKind.u64.wrap (IntKind.u64.wrap ((2 : Int) ^ b8) - 1) = ((2 ^ b8 - 1 : Nat) : Int) := by
              have : b8 = 0 ∨ b8 = 1 ∨ b8 = 2 ∨ b8 = 3 ∨ b8 = 4 ∨ b8 = 5 := by omega
              rcases this with e | e | e | e | e | e <;> rw [e] <;> decide
            have h2p : 2 ^ b8 ≤ 2 ^ 7 := Nat.pow_le_pow_right (by omega) (by omega)
            rw [e1, u64_and_nat _ _ (by omega) (by omega), Nat.and_two_pow_sub_one_eq_mod]
          simp -dsimp [go_sem, hms]
          refine ⟨⟨p + 1, _, by omega, h4it, hstep, rfl, rfl, ?_, hinv.1, hinv.2.1, ?_, Nw.fr n2 hk4 (by omega), Nat.le_trans hs2 hk4.size⟩, ?_⟩
          · exact hB4
          · have := hinv.2.2
            simp only at this ⊢
            omega
          · rw [hp4]
            have : w1.iterPos g = p := by simp [World.iterPos, hit]
            omega
        · rw [if_neg h8] at est
          rw [est] at hstep hinv
          have h8' : ¬ (8 : Int) ≤ (b6 : Int) := by omega
          simp -dsimp [go_sem, hneg, f5, f6, hsh, hcx, hor, hb6, h8, h8']
          refine ⟨⟨p + 1, (m, b6, o), by omega, h2it, hstep, rfl, rfl, hB2, hinv.1, hinv.2.1, by simp only; omega, n2, hs2⟩, ?_⟩
          rw [hp1]
          have : w1.iterPos g = p := by simp [World.iterPos, hit]
          omega
    · have hi : idx u[p] = -1 := by
        have : 128 ≤ u[p].toNat := hdec.2 hr
        exact indexByte_high abc abc_low _ this
      rw [if_neg hr]
      simp -dsimp [go_sem]
      refine ⟨decR_none (decB_fail (p := p) (d := d) (by rw [← hu]; exact hd) (by rw [← hu]; exact hlt) ?_) rfl, n2⟩
      simp only [← hu, hi]; decide
  · obtain rfl : p = u.length := by omega
    have hn := fun ty => Lib.run_next_end_at (P := Tryd.prog) w1 g z u.length ty hit (by omega)
    rw [List.take_length] at hd
    obtain ⟨A, c, f4, ho, hA⟩ := hB
    simp -dsimp [go_sem, hn, f4]
    refine call (encode_spec d.2.2 A c w1 ho.rd (by omega)) ?_
    rintro v w2 ⟨rfl, hk2⟩
    by_cases he : encB d.2.2 = s
    · have hds : decB s = some d.2.2 := by rw [decB_some]; exact he
      have he' : (encB d.2.2 == s) = true := by simp [he]
      simp -dsimp [go_sem, he', f4]
      refine ⟨⟨_, by rw [hds]; rfl, ?_⟩, hk.nw hk2⟩
      rw [hds]
      exact Bs.mono (Bs.nw ⟨A, c, rfl, ho, hA⟩ hk2) (by omega)
    · have hds : decB s = none := by
        unfold decB
        rw [← hu, hd]
        simp [he]
      have he' : (encB d.2.2 == s) = false := by simpa using he
      simp -dsimp [go_sem, he']
      exact ⟨decR_none hds rfl, hk.nw hk2⟩
end Go.Proofs.YthdbppggnkfgjaaDoor
