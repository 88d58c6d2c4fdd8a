/-
  Slices of bytes in memory of their own: what append, a store and a cut leave of them. By the session itself.
-/
import Derived.Test.YtindfpaahlijeaaDoorHd
namespace Go.Proofs.YtindfpaahlijeaaDoor
set_option linter.unusedSimpArgs false
set_option linter.unusedVariables false
set_option maxRecDepth 100000
open Go.Vc Go.RowKit
/-- A slice of bytes in memory of its own. -/
def Bs (w : World) (v : Value) (l : List UInt8) (B : Nat) : Prop := ∃ A c, v = .slice A l.length c ∧ Ow w 5 1 A l.length c (l.map u8) ∧ ∀ a, A = some a → B ≤ a.block

theorem one_u8 (l : List UInt8) : ∀ u ∈ l.map u8, u.oneCell' = true := by
  intro u hu
  obtain ⟨b, _, rfl⟩ := List.mem_map.1 hu
  rfl

theorem byteOf (n : Nat) (h : n < 256) : u8 (UInt8.ofNat n) = .int .u8 (n : Int) := by
  simp [Nat.mod_eq_of_lt h]

theorem Bs.mono {w : World} {v : Value} {l : List UInt8} {B B' : Nat} (h : Bs w v l B) (hB : B' ≤ B) : Bs w v l B' := by
  obtain ⟨A, c, rfl, ho, hf⟩ := h
  exact ⟨A, c, rfl, ho, fun a ha => Nat.le_trans hB (hf a ha)⟩

theorem Bs.gs {w : World} {v : Value} {l : List UInt8} {B : Nat} (h : Bs w v l B) : Gs w 5 1 v l.length (l.map u8) B := h
theorem Bs.of_gs {w : World} {v : Value} {l : List UInt8} {n B : Nat} (h : Gs w 5 1 v n (l.map u8) B) (hn : n = l.length) : Bs w v l B := by
  subst hn; exact h
theorem Bs.nil (w : World) (B : Nat) : Bs w (.slice none 0 0) [] B := Gs.nil _ _ _ _
theorem Bs.kp {w w' : World} {v : Value} {l : List UInt8} {B : Nat} {S : Nat → Prop} (h : Bs w v l B) (k : Kp S w w') (hn : ∀ i, B ≤ i → i < w.heap.size → ¬ S i) : Bs w' v l B := Gs.kp h k hn
theorem Bs.nw {w w' : World} {v : Value} {l : List UInt8} {B : Nat} (h : Bs w v l B) (k : Nw w w') : Bs w' v l B := Gs.nw h k
/-- 'b = append(b, m...)'. -/
theorem bs_app {K : Value → World → Prop} {k : Stop K} {w : World} {ty : TypeId} {X : Option Addr} {v : Value} {d B : Nat} {l m : List UInt8}
    (ho : Bs w v l B) (hr : Rd w X (m.map u8)) (hl : l.length + m.length ≤ 140737488355328) (hB : B ≤ w.heap.size)
    (h : ∀ v' w', Bs w' v' (l ++ m) B → Kp (Fr B) w w' → K v' w') :
    wV K k (appS Tryd.prog #[26, 26] ty #[v, .slice X m.length d] w) :=
  gs_app Tryd.Su8 ho hr (by simp) (one_u8 m) (by omega) (by omega) hB fun v' w' hg hk => h v' w' (Bs.of_gs (by rw [List.map_append]; exact hg) (by rw [List.length_append])) hk
/-- 'b = append(b, x)'. -/
theorem bs_push {K : Value → World → Prop} {k : Stop K} {w : World} {ty : TypeId} {v : Value} {b B x : Nat} {l : List UInt8}
    (ho : Bs w v l B) (hb : b = w.heap.size) (hx : x < 256) (hl : l.length + 1 ≤ 140737488355328) (hB : B ≤ w.heap.size)
    (h : ∀ v' w', Bs w' v' (l ++ [UInt8.ofNat x]) B → Kp (Fr B) w w' → K v' w') :
    wV K k (appS Tryd.prog #[26, 26] ty #[v, .slice (some ⟨b, 0, none⟩) 1 1] (w.alloc (.cells #[.int .u8 (x : Int)] 5))) := by
  have k0 : Nw w (w.alloc (.cells #[.int .u8 (x : Int)] 5)) := (Kp.refl _ _).alloc _
  refine bs_app (m := [UInt8.ofNat x]) (ho.nw k0) (Rd.fresh hb (by rw [List.map_cons, List.map_nil, byteOf x hx])) hl (Nat.le_trans hB k0.size) fun v' w' h1 h2 => h v' w' h1 ((k0.kp _).trans h2 fun _ _ h => h)
/-- Bytes in a slice whose memory lies in F. -/
def Bf (w : World) (v : Value) (l : List UInt8) (F : Nat → Prop) : Prop := ∃ A c, v = .slice A l.length c ∧ Ow w 5 1 A l.length c (l.map u8) ∧ (∀ k, blk A k → F k) ∧ (∀ k, F k → k < w.heap.size)
theorem Bf.nil (w : World) : Bf w (.slice none 0 0) [] (fun _ => False) := ⟨none, 0, rfl, Ow.nil _ _ _, fun _ h => h, fun _ h => h.elim⟩
theorem Bf.kp {S : Nat → Prop} {w w' : World} {v : Value} {l : List UInt8} {F : Nat → Prop} (h : Bf w v l F) (k : Kp S w w') (hd : ∀ i, F i → ¬ S i) : Bf w' v l F := by
  obtain ⟨A, c, rfl, ho, h1, h2⟩ := h
  exact ⟨A, c, rfl, ho.kp k (Off.of_blk fun i hi => hd _ (h1 _ hi)), h1, fun i hi => Nat.lt_of_lt_of_le (h2 i hi) k.size⟩
theorem Bf.nw {w w' : World} {v : Value} {l : List UInt8} {F : Nat → Prop} (h : Bf w v l F) (k : Nw w w') : Bf w' v l F := h.kp k fun _ _ h => h
theorem Bf.lt {w : World} {v : Value} {l : List UInt8} {F : Nat → Prop} (h : Bf w v l F) : ∀ k, F k → k < w.heap.size := by
  obtain ⟨_, _, _, _, _, h⟩ := h
  exact h
theorem bf_app {K : Value → World → Prop} {k : Stop K} {w : World} {ty : TypeId} {X : Option Addr} {v : Value} {d : Nat} {l m : List UInt8} {F : Nat → Prop}
    (ho : Bf w v l F) (hr : Rd w X (m.map u8)) (hl : l.length + m.length ≤ 140737488355328)
    (h : ∀ v' w' F', Bf w' v' (l ++ m) F' → Gr F F' w w' → Kp F w w' → K v' w') :
    wV K k (appS Tryd.prog #[26, 26] ty #[v, .slice X m.length d] w) := by
  obtain ⟨A, c, rfl, ho, h1, h2⟩ := ho
  refine app Tryd.Su8 ho hr (by simp) (one_u8 m) (by omega) (by omega) fun A' c' w' ho' hk hAA => ?_
  have e : l.length + m.length = (l ++ m).length := by simp
  have e2 : l.map u8 ++ m.map u8 = (l ++ m).map u8 := by simp
  rw [e, e2] at ho'
  rw [e]
  refine h _ w' (blk A') ⟨A', c', rfl, ho', fun _ h => h, fun i hi => ?_⟩ (fun i hi => ?_) (hk.mono fun i _ hi => h1 i hi)
  · obtain ⟨a, rfl, rfl⟩ := blk_of hi
    exact ho'.lt a rfl
  · rcases hAA with rfl | ⟨rfl, hlt⟩
    · exact .inl (h1 i hi)
    · have hi : i = w.heap.size := hi
      subst hi
      exact .inr ⟨Nat.le_refl _, hlt⟩
/-- 'append([]byte{}, m...)'. -/
theorem bs_fresh {K : Value → World → Prop} {k : Stop K} {w : World} {ty : TypeId} {X : Option Addr} {b d n : Nat} {m : List UInt8} (hb : b = w.heap.size) (hn : n = m.length) (hr : Rd w X (m.map u8)) (hl : m.length ≤ 140737488355328)
    (h : ∀ v' w', Bs w' v' m w.heap.size → Nw w w' → K v' w') :
    wV K k (appS Tryd.prog #[26, 26] ty #[.slice (some ⟨b, 0, none⟩) 0 0, .slice X n d] (w.alloc (.cells #[] 5))) := by
  subst hb; subst hn
  have ka : Nw w (w.alloc (.cells #[] 5)) := (Kp.refl _ _).alloc _
  refine bs_app (m := m) (l := []) (B := w.heap.size) (Gs.made w 5 1 0 #[] rfl rfl rfl (by simp [maxLen]) (Nat.le_refl _)) (hr.nw ka) (by simpa using hl) ka.size fun v' w' h1 h2 => h v' w' (by simpa using h1) (Nw.fr ka h2 (Nat.le_refl _))
end Go.Proofs.YtindfpaahlijeaaDoor
