import PyProof.Rows.All
import Wide.All
import OpenK.AllK
import Wide.FinOn
import PyProof.EqAt
import PyProof.EqKinds
import PyProof.TupleCall
import Open.SpecLaws
import KE.OsGo
import HandS.ForSpec
import HandS.Walk
import HandS.ExcInit
import HandS.ExcField
import PySem.Challenge.RW_paintsheets_s02_size
set_option Elab.async false
set_option linter.all false
set_option maxRecDepth 100000
set_option maxHeartbeats 4000000
namespace Pm
/-! ### numbers and bytes -/
def Byt (l : List Int) : Prop := ∀ z, z ∈ l → 0 ≤ z ∧ z ≤ 255
def u8 (z : Int) : UInt8 := UInt8.ofNat z.toNat
def un (c : UInt8) : Int := (c.toNat : Int)
theorem un_u8 {z : Int} (h : 0 ≤ z ∧ z ≤ 255) : un (u8 z) = z := by
  unfold un u8
  rw [UInt8.toNat_ofNat']
  have : z.toNat % 2 ^ 8 = z.toNat := Nat.mod_eq_of_lt (by omega)
  rw [this]
  omega
theorem u8_zero {z : Int} (h : 0 ≤ z ∧ z ≤ 255) : u8 z = 0 ↔ z = 0 := by
  constructor
  · intro e
    have q := un_u8 h
    rw [e] at q
    exact q.symm
  · intro e
    subst e
    rfl
theorem u8_toNat {z : Int} (h : 0 ≤ z ∧ z ≤ 255) : (u8 z).toNat = z.toNat := by
  have q := un_u8 h
  unfold un at q
  omega
theorem u8_inj {z y : Int} (h : 0 ≤ z ∧ z ≤ 255) (h' : 0 ≤ y ∧ y ≤ 255) : u8 z = u8 y ↔ z = y := by
  constructor
  · intro e
    rw [← un_u8 h, e, un_u8 h']
  · intro e
    rw [e]
theorem text_eq (l : List Int) : Neutral.text l = l.map u8 := rfl
theorem text_len (l : List Int) : (Neutral.text l).length = l.length := by rw [text_eq, List.length_map]
theorem un_text : ∀ {l : List Int}, Byt l → (Neutral.text l).map un = l
  | [], _ => rfl
  | z :: r, h => by
    show un (u8 z) :: (Neutral.text r).map un = z :: r
    rw [un_u8 (h z (List.mem_cons_self ..)), un_text fun y hy => h y (List.mem_cons_of_mem _ hy)]
theorem Byt.get {l : List Int} (h : Byt l) {i : Nat} {z : Int} (e : l[i]? = some z) : 0 ≤ z ∧ z ≤ 255 := h z (List.mem_of_getElem? e)
theorem Byt.getD {l : List Int} (h : Byt l) (i : Nat) : 0 ≤ l.getD i 0 ∧ l.getD i 0 ≤ 255 := by
  rw [List.getD_eq_getElem?_getD]
  cases e : l[i]? with
  | none => exact ⟨Int.le_refl 0, (by decide : (0 : Int) ≤ 255)⟩
  | some z => exact h.get e
theorem text_getD {l : List Int} (i : Nat) : (Neutral.text l).getD i 0 = u8 (l.getD i 0) := by
  rw [text_eq, List.getD_eq_getElem?_getD, List.getD_eq_getElem?_getD, List.getElem?_map]
  cases l[i]? <;> rfl
theorem arr_getD {α : Type} (l : List α) (i : Nat) (d : α) : l.toArray.getD i d = l.getD i d := by
  rw [Array.getD_eq_getD_getElem?, List.getD_eq_getElem?_getD]
  simp
theorem shown_bytes (b : CeSheet.Bytes) : Neutral.shown (.bytes b) = (b.length : Int) :: b.map un := rfl
/-! ### the questions -/
def side (n : Int) : Bool := decide (1 ≤ n) && decide (n ≤ 256)
def pts (w h : Int) (l : List Int) : Bool := side w && (side h && decide ((l.length : Int) = w * h))
theorem side_iff {n : Int} : side n = true ↔ 1 ≤ n ∧ n ≤ 256 := by
  unfold side
  rw [Bool.and_eq_true, decide_eq_true_iff, decide_eq_true_iff]
theorem pts_iff {w h : Int} {l : List Int} : pts w h l = true ↔ (1 ≤ w ∧ w ≤ 256) ∧ (1 ≤ h ∧ h ≤ 256) ∧ (l.length : Int) = w * h := by
  unfold pts
  rw [Bool.and_eq_true, Bool.and_eq_true, side_iff, side_iff, decide_eq_true_iff]
theorem size_iff {w h : Nat} : CeSheet.sizeOk w h = true ↔ (1 ≤ w ∧ w ≤ 256) ∧ (1 ≤ h ∧ h ≤ 256) := by
  unfold CeSheet.sizeOk CeSheet.SIDE
  simp only [Bool.and_eq_true, decide_eq_true_iff]
  omega
theorem mul_nat {w h : Int} (hw : 0 ≤ w) (hh : 0 ≤ h) : ((w.toNat * h.toNat : Nat) : Int) = w * h := by
  rw [Int.natCast_mul, Int.toNat_of_nonneg hw, Int.toNat_of_nonneg hh]
theorem pts_iff_spec {w h : Int} {l : List Int} : CeSheetSpec.pointsOk (Neutral.text l) w.toNat h.toNat = true ↔ pts w h l = true := by
  rw [pts_iff]
  unfold CeSheetSpec.pointsOk
  rw [Bool.and_eq_true, size_iff, text_len, beq_iff_eq]
  constructor
  · rintro ⟨⟨h1, h2⟩, h3⟩
    have hw : 0 ≤ w := by omega
    have hh : 0 ≤ h := by omega
    have := mul_nat hw hh
    refine ⟨by omega, by omega, ?_⟩
    rw [← this, h3]
  · rintro ⟨h1, h2, h3⟩
    have hw : 0 ≤ w := by omega
    have hh : 0 ≤ h := by omega
    have := mul_nat hw hh
    refine ⟨⟨by omega, by omega⟩, ?_⟩
    omega
theorem pts_spec {w h : Int} {l : List Int} : CeSheetSpec.pointsOk (Neutral.text l) w.toNat h.toNat = pts w h l := by
  cases e : pts w h l with
  | true => exact pts_iff_spec.mpr e
  | false =>
    cases e2 : CeSheetSpec.pointsOk (Neutral.text l) w.toNat h.toNat with
    | false => rfl
    | true =>
      rw [pts_iff_spec.mp e2] at e
      cases e
/-! ### over -/
def overL (up low : List Int) : List Int := List.zipWith (fun a b => if a = 0 then b else a) up low
theorem over_un : ∀ {up low : List Int}, Byt up → Byt low → (CeSheet.over (Neutral.text up) (Neutral.text low)).map un = overL up low
  | [], _, _, _ => rfl
  | _ :: _, [], _, _ => rfl
  | a :: r, b :: s, h1, h2 => by
    show un (CeSheet.overPaint (u8 a) (u8 b)) :: (CeSheet.over (Neutral.text r) (Neutral.text s)).map un = (if a = 0 then b else a) :: overL r s
    rw [over_un (fun y hy => h1 y (List.mem_cons_of_mem _ hy)) fun y hy => h2 y (List.mem_cons_of_mem _ hy)]
    have ha := h1 a (List.mem_cons_self ..)
    have hb := h2 b (List.mem_cons_self ..)
    unfold CeSheet.overPaint
    by_cases c : a = 0
    · rw [if_pos c, if_pos ((u8_zero ha).mpr c), un_u8 hb]
    · rw [if_neg c, if_neg (fun e => c ((u8_zero ha).mp e)), un_u8 ha]
def over (w h : Int) (up low : List Int) : List Int := if (pts w h up && pts w h low) = true then ((overL up low).length : Int) :: overL up low else [-1]
theorem over_is {w h : Int} {up low : List Int} (h1 : Byt up) (h2 : Byt low) : PyWqasbp.over w h up low = over w h up low := by
  show Neutral.shown (if CeSheetSpec.pointsOk (Neutral.text up) w.toNat h.toNat = true ∧ CeSheetSpec.pointsOk (Neutral.text low) w.toNat h.toNat = true then .bytes (CeSheet.over (Neutral.text up) (Neutral.text low)) else CeSheetSpec.no 1) = _
  unfold over
  rw [pts_spec, pts_spec]
  by_cases c : (pts w h up && pts w h low) = true
  · rw [if_pos c, if_pos (Bool.and_eq_true_iff.mp c), shown_bytes, over_un h1 h2]
    have e := congrArg List.length (over_un h1 h2)
    rw [List.length_map] at e
    rw [e]
  · rw [if_neg c, if_neg (fun q => c (Bool.and_eq_true_iff.mpr q))]
    rfl
/-! ### repaint -/
def repaintL (table a : List Int) : List Int := a.map fun p => if p = 0 then 0 else table.getD p.toNat 0
theorem repaint_un {table : List Int} (ht : Byt table) : ∀ {a : List Int}, Byt a → (CeSheet.repainted (Neutral.text table) (Neutral.text a)).map un = repaintL table a
  | [], _ => rfl
  | p :: r, h => by
    show un (if u8 p = 0 then 0 else (Neutral.text table).toArray.getD (u8 p).toNat 0) :: (CeSheet.repainted (Neutral.text table) (Neutral.text r)).map un = (if p = 0 then 0 else table.getD p.toNat 0) :: repaintL table r
    rw [repaint_un ht fun y hy => h y (List.mem_cons_of_mem _ hy)]
    have hp := h p (List.mem_cons_self ..)
    by_cases c : p = 0
    · rw [if_pos c, if_pos ((u8_zero hp).mpr c)]
      rfl
    · rw [if_neg c, if_neg (fun e => c ((u8_zero hp).mp e)), arr_getD, text_getD, u8_toNat hp, un_u8 (ht.getD _)]
def repaint (w h : Int) (a table : List Int) : List Int := if (pts w h a && decide (table.length = 256)) = true then ((repaintL table a).length : Int) :: repaintL table a else [-1]
theorem repaint_is {w h : Int} {a table : List Int} (h1 : Byt a) (h2 : Byt table) : PyWqasbp.repaint w h a table = repaint w h a table := by
  show Neutral.shown (if CeSheetSpec.pointsOk (Neutral.text a) w.toNat h.toNat = true ∧ (Neutral.text table).length = 256 then .bytes (CeSheet.repainted (Neutral.text table) (Neutral.text a)) else CeSheetSpec.no 1) = _
  unfold repaint
  rw [pts_spec, text_len]
  by_cases c : (pts w h a && decide (table.length = 256)) = true
  · have c' := Bool.and_eq_true_iff.mp c
    rw [if_pos c, if_pos ⟨c'.1, of_decide_eq_true c'.2⟩, shown_bytes, repaint_un h2 h1]
    have e := congrArg List.length (repaint_un h2 h1)
    rw [List.length_map] at e
    rw [e]
  · rw [if_neg c, if_neg (fun q => c (Bool.and_eq_true_iff.mpr ⟨q.1, decide_eq_true q.2⟩))]
    rfl
/-! ### count -/
theorem count_un {p : Int} (hp : 0 ≤ p) : ∀ {a : List Int}, Byt a → CeSheet.countOf (Neutral.text a) p.toNat = a.count p
  | [], _ => rfl
  | z :: r, h => by
    have ih := count_un hp (a := r) fun y hy => h y (List.mem_cons_of_mem _ hy)
    have hz := h z (List.mem_cons_self ..)
    unfold CeSheet.countOf at ih ⊢
    rw [text_eq] at ih ⊢
    rw [List.map_cons, List.countP_cons, ih, List.count_cons]
    have e : ((u8 z).toNat == p.toNat) = (z == p) := by
      rw [u8_toNat hz]
      by_cases c : z = p
      · subst c
        simp
      · have : ¬ z.toNat = p.toNat := by omega
        rw [beq_false_of_ne c, beq_false_of_ne this]
    rw [e]
def count (w h p : Int) (a : List Int) : List Int := if (pts w h a && decide (p ≤ 255)) = true then [((a.count p : Nat) : Int)] else [-1]
theorem count_is {w h p : Int} {a : List Int} (hp : 0 ≤ p) (h1 : Byt a) : PyWqasbp.count w h p a = count w h p a := by
  show Neutral.shown (if CeSheetSpec.pointsOk (Neutral.text a) w.toNat h.toNat = true ∧ p.toNat ≤ 255 then .nums [CeSheet.countOf (Neutral.text a) p.toNat] else CeSheetSpec.no 1) = _
  unfold count
  rw [pts_spec, count_un hp h1]
  by_cases c : (pts w h a && decide (p ≤ 255)) = true
  · have c' := Bool.and_eq_true_iff.mp c
    have c2 := of_decide_eq_true c'.2
    rw [if_pos c, if_pos ⟨c'.1, by omega⟩]
    rfl
  · rw [if_neg c, if_neg (fun q => c (Bool.and_eq_true_iff.mpr ⟨q.1, decide_eq_true (by omega)⟩))]
    rfl
end Pm
namespace Pm
/-! ### differ -/
/-- the first place at which two lists differ -/
def unlike : List Int → List Int → Nat → Option Nat
  | x :: r, y :: s, i => if x = y then unlike r s (i + 1) else some i
  | _, _, _ => none
theorem unlike_cons (x y : Int) (r s : List Int) (i : Nat) : unlike (x :: r) (y :: s) i = if x = y then unlike r s (i + 1) else some i := by rw [unlike]
theorem unlike_from : ∀ (a b : List Int) (i : Nat), unlike a b i = (unlike a b 0).map (· + i)
  | [], _, i => by simp [unlike]
  | _ :: _, [], i => by simp [unlike]
  | x :: r, y :: s, i => by
    unfold unlike
    by_cases c : x = y
    · rw [if_pos c, if_pos c, unlike_from r s (i + 1), unlike_from r s (0 + 1), Option.map_map]
      congr 1
      funext k
      show k + (i + 1) = k + (0 + 1) + i
      omega
    · rw [if_neg c, if_neg c]
      simp
theorem unlike_spec : ∀ {a b : List Int}, Byt a → Byt b → CeSheet.firstDiffer (Neutral.text a) (Neutral.text b) = unlike a b 0
  | [], b, _, _ => by
    unfold unlike
    rfl
  | _ :: _, [], _, _ => by
    unfold unlike
    rfl
  | x :: r, y :: s, h1, h2 => by
    have ih := unlike_spec (a := r) (b := s) (fun z hz => h1 z (List.mem_cons_of_mem _ hz)) fun z hz => h2 z (List.mem_cons_of_mem _ hz)
    have hx := h1 x (List.mem_cons_self ..)
    have hy := h2 y (List.mem_cons_self ..)
    unfold CeSheet.firstDiffer at ih ⊢
    show ((u8 x, u8 y) :: (Neutral.text r).zip (Neutral.text s)).findIdx? (fun x => x.1 != x.2) = _
    rw [List.findIdx?_cons, ih]
    rw [unlike_cons]
    by_cases c : x = y
    · have e : (u8 x != u8 y) = false := by
        rw [(u8_inj hx hy).mpr c]
        simp
      rw [if_pos c, unlike_from r s (0 + 1)]
      simp only [e]
      rfl
    · have e : (u8 x != u8 y) = true := by
        rw [bne_iff_ne]
        exact fun q => c ((u8_inj hx hy).mp q)
      rw [if_neg c]
      simp only [e]
      rfl
def differ (w h : Int) (a b : List Int) : List Int := if (pts w h a && pts w h b) = true then (match unlike a b 0 with
  | some i => [((i : Nat) : Int)]
  | none => [-3]) else [-1]
theorem differ_is {w h : Int} {a b : List Int} (h1 : Byt a) (h2 : Byt b) : PyWqasbp.differ w h a b = differ w h a b := by
  show Neutral.shown (if CeSheetSpec.pointsOk (Neutral.text a) w.toNat h.toNat = true ∧ CeSheetSpec.pointsOk (Neutral.text b) w.toNat h.toNat = true then (match CeSheet.firstDiffer (Neutral.text a) (Neutral.text b) with
    | some i => .nums [i]
    | none => CeSheetSpec.no 3) else CeSheetSpec.no 1) = _
  unfold differ
  rw [pts_spec, pts_spec, unlike_spec h1 h2]
  by_cases c : (pts w h a && pts w h b) = true
  · rw [if_pos c, if_pos (Bool.and_eq_true_iff.mp c)]
    cases unlike a b 0 <;> rfl
  · rw [if_neg c, if_neg (fun q => c (Bool.and_eq_true_iff.mpr q))]
    rfl
/-- what the loop knows: alike so far -/
theorem unlike_at : ∀ {a b : List Int} {i : Nat} {x y : Int}, (∀ j, j < i → a[j]? = b[j]?) → a[i]? = some x → b[i]? = some y → x ≠ y → unlike a b 0 = some i
  | [], _, _, _, _, _, h, _, _ => by simp at h
  | _ :: _, [], _, _, _, _, _, h, _ => by simp at h
  | p :: r, q :: s, 0, x, y, _, h1, h2, hn => by
    have e1 : p = x := Option.some.inj h1
    have e2 : q = y := Option.some.inj h2
    unfold unlike
    rw [if_neg (by rw [e1, e2]; exact hn)]
  | p :: r, q :: s, i + 1, x, y, ha, h1, h2, hn => by
    have e : p = q := Option.some.inj (ha 0 (by omega))
    unfold unlike
    rw [if_pos e, unlike_from, unlike_at (a := r) (b := s) (i := i) (fun j hj => ha (j + 1) (by omega)) h1 h2 hn]
    rfl
theorem unlike_none : ∀ {a b : List Int}, (∀ j : Nat, j < a.length → a[j]? = b[j]?) → unlike a b 0 = none
  | [], _, _ => by simp [unlike]
  | _ :: _, [], _ => by simp [unlike]
  | p :: r, q :: s, ha => by
    have e : p = q := Option.some.inj (ha 0 (by simp))
    unfold unlike
    rw [if_pos e, unlike_from, unlike_none (a := r) (b := s) fun j hj => ha (j + 1) (by simpa using hj)]
    rfl
/-! ### films -/
def Nn (l : List Int) : Prop := ∀ z, z ∈ l → 0 ≤ z
def film (w h : Int) (l : List Int) : Bool := side w && (side h && (decide ((l.length : Int) = 3 * w * h) && l.all fun n => decide (n ≤ 65535)))
theorem film_iff {w h : Int} {l : List Int} : film w h l = true ↔ (1 ≤ w ∧ w ≤ 256) ∧ (1 ≤ h ∧ h ≤ 256) ∧ (l.length : Int) = 3 * w * h ∧ ∀ z, z ∈ l → z ≤ 65535 := by
  unfold film
  simp only [Bool.and_eq_true, side_iff, decide_eq_true_iff, List.all_eq_true]
theorem nats_all : ∀ {l : List Int}, Nn l → ((Neutral.nats l).all fun n => decide (n ≤ CeSheet.FULL)) = l.all fun n => decide (n ≤ 65535)
  | [], _ => rfl
  | z :: r, h => by
    show (decide (z.toNat ≤ CeSheet.FULL) && (Neutral.nats r).all fun n => decide (n ≤ CeSheet.FULL)) = (decide (z ≤ 65535) && r.all fun n => decide (n ≤ 65535))
    rw [nats_all fun y hy => h y (List.mem_cons_of_mem _ hy)]
    have hz := h z (List.mem_cons_self ..)
    have e : decide (z.toNat ≤ CeSheet.FULL) = decide (z ≤ 65535) := by
      unfold CeSheet.FULL
      by_cases c : z ≤ 65535
      · rw [decide_eq_true c, decide_eq_true (by omega)]
      · rw [decide_eq_false c, decide_eq_false (by omega)]
    rw [e]
theorem film_iff_spec {w h : Int} {l : List Int} (hl : Nn l) : CeSheetSpec.filmOk (Neutral.nats l) w.toNat h.toNat = true ↔ film w h l = true := by
  unfold CeSheetSpec.filmOk film
  have el : (Neutral.nats l).length = l.length := by
    show (l.map Int.toNat).length = l.length
    rw [List.length_map]
  rw [nats_all hl, el]
  simp only [Bool.and_eq_true, size_iff, side_iff, beq_iff_eq, decide_eq_true_iff]
  constructor
  · rintro ⟨⟨h1, h2⟩, h3, h4⟩
    have hw : 0 ≤ w := by omega
    have hh : 0 ≤ h := by omega
    have := mul_nat hw hh
    refine ⟨by omega, by omega, ?_, h4⟩
    rw [Int.mul_assoc, ← this, h3, Int.natCast_mul]
    rfl
  · rintro ⟨h1, h2, h3, h4⟩
    have hw : 0 ≤ w := by omega
    have hh : 0 ≤ h := by omega
    have := mul_nat hw hh
    refine ⟨⟨by omega, by omega⟩, ?_, h4⟩
    rw [Int.mul_assoc] at h3
    omega
theorem film_spec {w h : Int} {l : List Int} (hl : Nn l) : CeSheetSpec.filmOk (Neutral.nats l) w.toNat h.toNat = film w h l := by
  cases e : film w h l with
  | true => exact (film_iff_spec hl).mpr e
  | false =>
    cases e2 : CeSheetSpec.filmOk (Neutral.nats l) w.toNat h.toNat with
    | false => rfl
    | true =>
      rw [(film_iff_spec hl).mp e2] at e
      cases e
/-! ### develop -/
def dev (n : Int) : Int := if (n + 32) / 64 < 255 then (n + 32) / 64 else 255
def developL (f : List Int) : List Int := f.map dev
theorem develop_un : ∀ {f : List Int}, Nn f → (CeSheet.developed (Neutral.nats f)).map un = developL f
  | [], _ => rfl
  | n :: r, h => by
    show un (UInt8.ofNat (min 255 ((n.toNat + 32) / 64))) :: (CeSheet.developed (Neutral.nats r)).map un = dev n :: developL r
    rw [develop_un fun y hy => h y (List.mem_cons_of_mem _ hy)]
    have hn := h n (List.mem_cons_self ..)
    have e : un (UInt8.ofNat (min 255 ((n.toNat + 32) / 64))) = dev n := by
      unfold un dev
      rw [UInt8.toNat_ofNat']
      have z : min 255 ((n.toNat + 32) / 64) % 2 ^ 8 = min 255 ((n.toNat + 32) / 64) := Nat.mod_eq_of_lt (by omega)
      rw [z]
      by_cases c : (n + 32) / 64 < 255
      · rw [if_pos c]
        omega
      · rw [if_neg c]
        omega
    rw [e]
def develop (w h : Int) (f : List Int) : List Int := if film w h f = true then ((developL f).length : Int) :: developL f else [-1]
theorem develop_is {w h : Int} {f : List Int} (h1 : Nn f) : PyWqasbp.develop w h f = develop w h f := by
  show Neutral.shown (if CeSheetSpec.filmOk (Neutral.nats f) w.toNat h.toNat = true then .bytes (CeSheet.developed (Neutral.nats f)) else CeSheetSpec.no 1) = _
  unfold develop
  rw [film_spec h1]
  by_cases c : film w h f = true
  · rw [if_pos c, if_pos c, shown_bytes, develop_un h1]
    have e := congrArg List.length (develop_un h1)
    rw [List.length_map] at e
    rw [e]
  · rw [if_neg c, if_neg c]
    rfl
/-! ### rows of rows -/
theorem grid {α : Type} (n : Nat) (g : Nat → Nat → α) : ∀ m : Nat, (List.range (m * n)).map (fun i => g (i / n) (i % n)) = (List.range m).flatMap fun c => (List.range n).map (g c)
  | 0 => by simp
  | m + 1 => by
    rw [Nat.succ_mul, List.range_add, List.map_append, grid n g m, List.range_succ, List.flatMap_append]
    congr 1
    rw [List.map_map, List.flatMap_singleton]
    refine List.map_congr_left fun x hx => ?_
    have hx' : x < n := List.mem_range.mp hx
    show g ((m * n + x) / n) ((m * n + x) % n) = g m x
    rw [Nat.mul_comm m n, Nat.mul_add_div (by omega), Nat.mul_add_mod, Nat.div_eq_of_lt hx', Nat.mod_eq_of_lt hx', Nat.add_zero]
/-! ### expose -/
def lightAt (model : List Int) (paint : Int) (c : Nat) : Int := model.getD (3 * paint + (c : Int)).toNat 0
def grow (n e l : Int) : Int := if n + e * l < 65535 then n + e * l else 65535
def exposeRow (film a model : List Int) (e : Int) (c : Nat) : List Int := (List.range a.length).map fun i => grow (film.getD (c * a.length + i) 0) e (lightAt model (a.getD i 0) c)
def exposeL (film a model : List Int) (e : Int) : List Int := (List.range 3).flatMap fun c => exposeRow film a model e c
theorem nats_getD (l : List Int) (i : Nat) : (Neutral.nats l).getD i 0 = (l.getD i 0).toNat := by
  show (l.map Int.toNat).getD i 0 = _
  rw [List.getD_eq_getElem?_getD, List.getD_eq_getElem?_getD, List.getElem?_map]
  cases l[i]? <;> rfl
theorem Nn.getD {l : List Int} (h : Nn l) (i : Nat) : 0 ≤ l.getD i 0 := by
  rw [List.getD_eq_getElem?_getD]
  cases e : l[i]? with
  | none => exact Int.le_refl 0
  | some z => exact h z (List.mem_of_getElem? e)
theorem expose_un {film a model : List Int} {e : Int} (he : 0 ≤ e) (hf : Nn film) (ha : Byt a) (hm : Byt model) :
    (CeSheet.exposed (Neutral.text model) (Neutral.text a) e.toNat (Neutral.nats film)).map (fun (n : Nat) => (n : Int)) = exposeL film a model e := by
  unfold CeSheet.exposed exposeL
  rw [text_len]
  have g := grid a.length (fun c i => grow (film.getD (c * a.length + i) 0) e (lightAt model (a.getD i 0) c)) 3
  show ((List.range (3 * a.length)).map _).map _ = _
  unfold exposeRow
  rw [← g, List.map_map]
  refine List.map_congr_left fun i hi => ?_
  have hi' : i < 3 * a.length := List.mem_range.mp hi
  have dm : i / a.length * a.length + i % a.length = i := by
    have := Nat.div_add_mod i a.length
    rw [Nat.mul_comm] at this
    exact this
  show ((CeSheet.grown ((Neutral.nats film).toArray.getD i 0) e.toNat ((Neutral.text model).toArray.getD (3 * ((Neutral.text a).toArray.getD (i % a.length) 0).toNat + i / a.length) 0).toNat : Nat) : Int) = _
  rw [arr_getD, arr_getD, arr_getD, nats_getD, text_getD, text_getD, u8_toNat (ha.getD _), u8_toNat (hm.getD _)]
  show _ = grow (film.getD (i / a.length * a.length + i % a.length) 0) e (lightAt model (a.getD (i % a.length) 0) (i / a.length))
  rw [dm]
  unfold lightAt
  have hp := ha.getD (i % a.length)
  generalize a.getD (i % a.length) 0 = p at hp
  generalize i / a.length = k
  have ep : (3 * p + (k : Int)).toNat = 3 * p.toNat + k := by omega
  rw [ep]
  have hl := hm.getD (3 * p.toNat + k)
  have hn := hf.getD i
  generalize model.getD (3 * p.toNat + k) 0 = l at hl
  generalize film.getD i 0 = n at hn
  unfold CeSheet.grown CeSheet.FULL grow
  have em : ((e.toNat * l.toNat : Nat) : Int) = e * l := mul_nat he hl.1
  generalize e.toNat * l.toNat = q at em
  rw [← em]
  by_cases c : n + (q : Int) < 65535
  · rw [if_pos c]
    omega
  · rw [if_neg c]
    omega
def expose (w h e : Int) (fl a model : List Int) : List Int := if (pts w h a && (film w h fl && (decide (model.length = 768) && decide (e ≤ 64)))) = true then exposeL fl a model e else [-1]
theorem expose_is {w h e : Int} {fl a model : List Int} (he : 0 ≤ e) (hf : Nn fl) (ha : Byt a) (hm : Byt model) : PyWqasbp.expose w h e fl a model = expose w h e fl a model := by
  show Neutral.shown (if CeSheetSpec.filmOk (Neutral.nats fl) w.toNat h.toNat = true ∧ CeSheetSpec.pointsOk (Neutral.text a) w.toNat h.toNat = true ∧ (Neutral.text model).length = 768 ∧ e.toNat ≤ 64 then
    .nums (CeSheet.exposed (Neutral.text model) (Neutral.text a) e.toNat (Neutral.nats fl)) else CeSheetSpec.no 1) = _
  unfold expose
  rw [pts_spec, film_spec hf, text_len]
  simp only [Bool.and_eq_true, decide_eq_true_iff]
  by_cases c : pts w h a = true ∧ film w h fl = true ∧ model.length = 768 ∧ e ≤ 64
  · rw [if_pos c, if_pos ⟨c.2.1, c.1, c.2.2.1, by omega⟩]
    exact expose_un he hf ha hm
  · rw [if_neg c, if_neg (fun q => c ⟨q.2.1, q.1, q.2.2.1, by omega⟩)]
    rfl
/-! ### move -/
def paintAt (w h : Int) (a : List Int) (x y : Int) : Int := if x < 0 ∨ x ≥ w ∨ y < 0 ∨ y ≥ h then 0 else a.getD (y * w + x).toNat 0
def moveRow (w h dx dy : Int) (a : List Int) (y : Nat) : List Int := (List.range w.toNat).map fun (x : Nat) => paintAt w h a ((x : Int) - dx) ((y : Int) - dy)
def moveL (w h dx dy : Int) (a : List Int) : List Int := (List.range h.toNat).flatMap fun y => moveRow w h dx dy a y
theorem move_un {w h dx dy : Int} {a : List Int} (hw : 0 ≤ w) (hh : 0 ≤ h) (ha : Byt a) : (CeSheet.Sheet.moved ⟨w.toNat, h.toNat, Neutral.text a⟩ dx dy).map un = moveL w h dx dy a := by
  unfold CeSheet.Sheet.moved moveL
  have g := grid w.toNat (fun (y x : Nat) => paintAt w h a ((x : Int) - dx) ((y : Int) - dy)) h.toNat
  unfold moveRow
  rw [← g, Nat.mul_comm h.toNat w.toNat]
  show ((List.range (w.toNat * h.toNat)).map _).map un = _
  rw [List.map_map]
  refine List.map_congr_left fun i hi => ?_
  show un (if 0 ≤ ((i % w.toNat : Nat) : Int) - dx ∧ ((i % w.toNat : Nat) : Int) - dx < (w.toNat : Int) ∧ 0 ≤ ((i / w.toNat : Nat) : Int) - dy ∧ ((i / w.toNat : Nat) : Int) - dy < (h.toNat : Int) then
    (Neutral.text a).toArray.getD ((((i / w.toNat : Nat) : Int) - dy).toNat * w.toNat + (((i % w.toNat : Nat) : Int) - dx).toNat) 0 else 0) = paintAt w h a (((i % w.toNat : Nat) : Int) - dx) (((i / w.toNat : Nat) : Int) - dy)
  generalize ((i % w.toNat : Nat) : Int) - dx = x
  generalize ((i / w.toNat : Nat) : Int) - dy = y
  unfold paintAt
  rw [Int.toNat_of_nonneg hw, Int.toNat_of_nonneg hh]
  by_cases c : x < 0 ∨ x ≥ w ∨ y < 0 ∨ y ≥ h
  · rw [if_pos c, if_neg (by omega)]
    rfl
  · rw [if_neg c, if_pos (by omega), arr_getD, text_getD, un_u8 (ha.getD _)]
    have e := mul_nat (w := y) (h := w) (by omega) hw
    congr 1
    omega
def move (w h dx dy : Int) (a : List Int) : List Int := if pts w h a = true then ((moveL w h dx dy a).length : Int) :: moveL w h dx dy a else [-1]
theorem move_is {w h dx dy : Int} {a : List Int} (h1 : Byt a) : PyWqasbp.move w h dx dy a = move w h dx dy a := by
  show Neutral.shown (if CeSheetSpec.pointsOk (Neutral.text a) w.toNat h.toNat = true then .bytes (CeSheet.Sheet.moved ⟨w.toNat, h.toNat, Neutral.text a⟩ dx dy) else CeSheetSpec.no 1) = _
  unfold move
  rw [pts_spec]
  by_cases c : pts w h a = true
  · have q := pts_iff.mp c
    have m := move_un (dx := dx) (dy := dy) (w := w) (h := h) (by omega) (by omega) h1
    rw [if_pos c, if_pos c, shown_bytes, m]
    have e := congrArg List.length m
    rw [List.length_map] at e
    rw [e]
  · rw [if_neg c, if_neg c]
    rfl
end Pm
namespace Pm
/-! ### box -/
def placesL (w : Int) (a : List Int) : List (Int × Int) := (a.zipIdx.filter fun (x : Int × Nat) => decide (x.1 ≠ 0)).map fun (x : Int × Nat) => (((x.2 : Nat) : Int) % w, ((x.2 : Nat) : Int) / w)
theorem places_more {w : Int} {a : List Int} {i : Nat} {z : Int} (h : a[i]? = some z) : placesL w (a.take (i + 1)) = placesL w (a.take i) ++ (if z ≠ 0 then [((i : Int) % w, (i : Int) / w)] else []) := by
  have hi : i < a.length := by
    have := List.getElem?_eq_some_iff.mp h
    exact this.1
  have e : a.take (i + 1) = a.take i ++ [z] := by
    rw [List.take_add_one, h]
    rfl
  have el : (a.take i).length = i := by rw [List.length_take]; omega
  unfold placesL
  rw [e, List.zipIdx_append, List.filter_append, List.map_append, el]
  congr 1
  by_cases c : z ≠ 0
  · rw [if_pos c]
    simp [List.zipIdx, List.filter, c]
  · rw [if_neg c]
    simp [List.zipIdx, List.filter, c]
theorem places_len (w : Int) (a : List Int) : (placesL w a).length ≤ a.length := by
  unfold placesL
  rw [List.length_map]
  refine Nat.le_trans (List.length_filter_le _ _) ?_
  rw [List.length_zipIdx]
  exact Nat.le_refl _
theorem painted_go : ∀ (a : List Int) (k : Nat), Byt a → ((Neutral.text a).zipIdx k).filter (fun (x : UInt8 × Nat) => x.1 != 0) = ((a.zipIdx k).filter fun (x : Int × Nat) => decide (x.1 ≠ 0)).map fun (x : Int × Nat) => (u8 x.1, x.2)
  | [], _, _ => rfl
  | z :: r, k, h => by
    have ih := painted_go r (k + 1) fun y hy => h y (List.mem_cons_of_mem _ hy)
    have hz := h z (List.mem_cons_self ..)
    show ((u8 z, k) :: (Neutral.text r).zipIdx (k + 1)).filter _ = (((z, k) :: r.zipIdx (k + 1)).filter _).map _
    rw [List.filter_cons, List.filter_cons, ih]
    by_cases c : z = 0
    · have e1 : ((u8 z, k).1 != 0) = false := by
        show (u8 z != 0) = false
        rw [(u8_zero hz).mpr c]
        rfl
      have e2 : decide ((z, k).1 ≠ 0) = false := decide_eq_false (fun q => q c)
      rw [e1, e2]
      rfl
    · have e1 : ((u8 z, k).1 != 0) = true := by
        rw [bne_iff_ne]
        exact fun q => c ((u8_zero hz).mp q)
      have e2 : decide ((z, k).1 ≠ 0) = true := decide_eq_true c
      rw [e1, e2]
      rfl
theorem painted_spec {w h : Nat} {a : List Int} (ha : Byt a) : (CeSheet.Sheet.painted ⟨w, h, Neutral.text a⟩).map (fun (q : Nat × Nat) => ((q.1 : Int), (q.2 : Int))) = placesL (w : Int) a := by
  unfold CeSheet.Sheet.painted placesL
  show ((((Neutral.text a).zipIdx 0).filter _).map _).map _ = _
  rw [painted_go a 0 ha, List.map_map, List.map_map]
  exact List.map_congr_left fun x _ => rfl
theorem fold_parts : ∀ (r : List (Nat × Nat)) (b : Nat × Nat × Nat × Nat), r.foldl (fun (b : Nat × Nat × Nat × Nat) (q : Nat × Nat) => (min b.1 q.1, min b.2.1 q.2, max b.2.2.1 q.1, max b.2.2.2 q.2)) b =
    (r.foldl (fun m q => min m q.1) b.1, r.foldl (fun m q => min m q.2) b.2.1, r.foldl (fun m q => max m q.1) b.2.2.1, r.foldl (fun m q => max m q.2) b.2.2.2)
  | [], _ => rfl
  | q :: r, b => by
    rw [List.foldl_cons, fold_parts r]
    rfl
theorem fmin {f : Nat × Nat → Nat} : ∀ (r : List (Nat × Nat)) (m : Nat), (r.foldl (fun m q => min m (f q)) m ≤ m ∧ ∀ q, q ∈ r → r.foldl (fun m q => min m (f q)) m ≤ f q) ∧ (r.foldl (fun m q => min m (f q)) m = m ∨ ∃ q, q ∈ r ∧ r.foldl (fun m q => min m (f q)) m = f q)
  | [], m => ⟨⟨Nat.le_refl _, fun _ h => absurd h (by simp)⟩, .inl rfl⟩
  | x :: r, m => by
    rw [List.foldl_cons]
    obtain ⟨⟨h1, h2⟩, h3⟩ := fmin (f := f) r (min m (f x))
    generalize r.foldl (fun m q => min m (f q)) (min m (f x)) = v at h1 h2 h3
    refine ⟨⟨by omega, fun q hq => ?_⟩, ?_⟩
    · rcases List.mem_cons.mp hq with e | e
      · subst e
        omega
      · exact h2 q e
    · rcases h3 with e | ⟨q, hq, e⟩
      · by_cases c : m ≤ f x
        · exact .inl (by omega)
        · exact .inr ⟨x, List.mem_cons_self .., by omega⟩
      · exact .inr ⟨q, List.mem_cons_of_mem _ hq, e⟩
theorem fmax {f : Nat × Nat → Nat} : ∀ (r : List (Nat × Nat)) (m : Nat), (m ≤ r.foldl (fun m q => max m (f q)) m ∧ ∀ q, q ∈ r → f q ≤ r.foldl (fun m q => max m (f q)) m) ∧ (r.foldl (fun m q => max m (f q)) m = m ∨ ∃ q, q ∈ r ∧ r.foldl (fun m q => max m (f q)) m = f q)
  | [], m => ⟨⟨Nat.le_refl _, fun _ h => absurd h (by simp)⟩, .inl rfl⟩
  | x :: r, m => by
    rw [List.foldl_cons]
    obtain ⟨⟨h1, h2⟩, h3⟩ := fmax (f := f) r (max m (f x))
    generalize r.foldl (fun m q => max m (f q)) (max m (f x)) = v at h1 h2 h3
    refine ⟨⟨by omega, fun q hq => ?_⟩, ?_⟩
    · rcases List.mem_cons.mp hq with e | e
      · subst e
        omega
      · exact h2 q e
    · rcases h3 with e | ⟨q, hq, e⟩
      · by_cases c : f x ≤ m
        · exact .inl (by omega)
        · exact .inr ⟨x, List.mem_cons_self .., by omega⟩
      · exact .inr ⟨q, List.mem_cons_of_mem _ hq, e⟩
/-- the least of a list is the one that is in it and not above any -/
theorem least_is {f : Nat × Nat → Nat} {p : Nat × Nat} {r : List (Nat × Nat)} {m : Int} (h1 : m ∈ (p :: r).map fun q => ((f q : Nat) : Int)) (h2 : ∀ y, y ∈ ((p :: r).map fun q => ((f q : Nat) : Int)) → m ≤ y) :
    m = ((r.foldl (fun m q => min m (f q)) (f p) : Nat) : Int) := by
  obtain ⟨⟨a1, a2⟩, a3⟩ := fmin (f := f) r (f p)
  obtain ⟨q, hq, e⟩ := List.mem_map.mp h1
  have le1 : r.foldl (fun m q => min m (f q)) (f p) ≤ f q := by
    rcases List.mem_cons.mp hq with z | z
    · rw [z]
      exact a1
    · exact a2 q z
  have le2 : m ≤ ((r.foldl (fun m q => min m (f q)) (f p) : Nat) : Int) := by
    rcases a3 with z | ⟨y, hy, z⟩
    · rw [z]
      exact h2 _ (List.mem_map.mpr ⟨p, List.mem_cons_self .., rfl⟩)
    · rw [z]
      exact h2 _ (List.mem_map.mpr ⟨y, List.mem_cons_of_mem _ hy, rfl⟩)
  omega
theorem most_is {f : Nat × Nat → Nat} {p : Nat × Nat} {r : List (Nat × Nat)} {m : Int} (h1 : m ∈ (p :: r).map fun q => ((f q : Nat) : Int)) (h2 : ∀ y, y ∈ ((p :: r).map fun q => ((f q : Nat) : Int)) → y ≤ m) :
    m = ((r.foldl (fun m q => max m (f q)) (f p) : Nat) : Int) := by
  obtain ⟨⟨a1, a2⟩, a3⟩ := fmax (f := f) r (f p)
  obtain ⟨q, hq, e⟩ := List.mem_map.mp h1
  have le1 : f q ≤ r.foldl (fun m q => max m (f q)) (f p) := by
    rcases List.mem_cons.mp hq with z | z
    · rw [z]
      exact a1
    · exact a2 q z
  have le2 : ((r.foldl (fun m q => max m (f q)) (f p) : Nat) : Int) ≤ m := by
    rcases a3 with z | ⟨y, hy, z⟩
    · rw [z]
      exact h2 _ (List.mem_map.mpr ⟨p, List.mem_cons_self .., rfl⟩)
    · rw [z]
      exact h2 _ (List.mem_map.mpr ⟨y, List.mem_cons_of_mem _ hy, rfl⟩)
  omega
theorem box_show (w h : Int) (a : List Int) : PyWqasbp.box w h a = Neutral.shown (if CeSheetSpec.pointsOk (Neutral.text a) w.toNat h.toNat = true then (match CeSheet.Sheet.box ⟨w.toNat, h.toNat, Neutral.text a⟩ with
    | some x => .nums [x.1, x.2.1, x.2.2.1, x.2.2.2]
    | none => CeSheetSpec.no 3) else CeSheetSpec.no 1) := rfl
theorem box_bad {w h : Int} {a : List Int} (c : pts w h a = false) : PyWqasbp.box w h a = [-1] := by
  rw [box_show, pts_spec, c, if_neg Bool.false_ne_true]
  rfl
theorem box_none {w h : Int} {a : List Int} (h1 : Byt a) (c : pts w h a = true) (e : placesL w a = []) : PyWqasbp.box w h a = [-3] := by
  have q := pts_iff.mp c
  have hp := painted_spec (w := w.toNat) (h := h.toNat) h1
  rw [Int.toNat_of_nonneg (by omega), e] at hp
  rw [box_show, pts_spec, c, if_pos rfl]
  unfold CeSheet.Sheet.box
  rw [List.map_eq_nil_iff.mp hp]
  rfl
theorem box_some {w h : Int} {a : List Int} (h1 : Byt a) (c : pts w h a = true) (e : placesL w a ≠ []) {m1 m2 m3 m4 : Int}
    (a1 : m1 ∈ (placesL w a).map Prod.fst) (b1 : ∀ y, y ∈ (placesL w a).map Prod.fst → m1 ≤ y) (a2 : m2 ∈ (placesL w a).map Prod.snd) (b2 : ∀ y, y ∈ (placesL w a).map Prod.snd → m2 ≤ y)
    (a3 : m3 ∈ (placesL w a).map Prod.fst) (b3 : ∀ y, y ∈ (placesL w a).map Prod.fst → y ≤ m3) (a4 : m4 ∈ (placesL w a).map Prod.snd) (b4 : ∀ y, y ∈ (placesL w a).map Prod.snd → y ≤ m4) : PyWqasbp.box w h a = [m1, m2, m3, m4] := by
  have q := pts_iff.mp c
  have hp := painted_spec (w := w.toNat) (h := h.toNat) h1
  rw [Int.toNat_of_nonneg (by omega)] at hp
  rw [box_show, pts_spec, c, if_pos rfl]
  unfold CeSheet.Sheet.box
  cases hs : CeSheet.Sheet.painted ⟨w.toNat, h.toNat, Neutral.text a⟩ with
  | nil =>
    rw [hs] at hp
    exact absurd hp.symm e
  | cons p r =>
    rw [hs] at hp
    have ex : (placesL w a).map Prod.fst = (p :: r).map fun q => ((q.1 : Nat) : Int) := by
      rw [← hp, List.map_map]
      exact List.map_congr_left fun _ _ => rfl
    have ey : (placesL w a).map Prod.snd = (p :: r).map fun q => ((q.2 : Nat) : Int) := by
      rw [← hp, List.map_map]
      exact List.map_congr_left fun _ _ => rfl
    rw [ex] at a1 b1 a3 b3
    rw [ey] at a2 b2 a4 b4
    rw [least_is (f := Prod.fst) a1 b1, least_is (f := Prod.snd) a2 b2, most_is (f := Prod.fst) a3 b3, most_is (f := Prod.snd) a4 b4]
    show Neutral.shown (.nums [(r.foldl _ (p.1, p.2, p.1, p.2)).1, _, _, _]) = _
    rw [fold_parts]
    rfl
/-! ### keep -/
theorem u8_un (c : UInt8) : u8 (un c) = c := by
  unfold u8 un
  simp
/-- one paint more -/
def runStep : List (Int × Int) → Int → List (Int × Int)
  | [], p => [(1, p)]
  | [x], p => if x.2 = p then [(x.1 + 1, p)] else [x, (1, p)]
  | x :: y :: t, p => x :: runStep (y :: t) p
def runCons (q : Int) : List (Int × Int) → List (Int × Int)
  | x :: t => if q = x.2 then (x.1 + 1, x.2) :: t else (1, q) :: x :: t
  | [] => [(1, q)]
def runsI : List Int → List (Int × Int)
  | [] => []
  | q :: r => runCons q (runsI r)
theorem runStep_end : ∀ (L : List (Int × Int)) (m q p : Int), runStep (L ++ [(m, q)]) p = if q = p then L ++ [(m + 1, p)] else L ++ [(m, q), (1, p)]
  | [], m, q, p => by
    show (if q = p then [(m + 1, p)] else [(m, q), (1, p)]) = _
    rfl
  | [x], m, q, p => by
    show x :: (if q = p then [(m + 1, p)] else [(m, q), (1, p)]) = _
    by_cases c : q = p
    · rw [if_pos c, if_pos c]
      rfl
    · rw [if_neg c, if_neg c]
      rfl
  | x :: y :: t, m, q, p => by
    have ih := runStep_end (y :: t) m q p
    show x :: runStep (y :: (t ++ [(m, q)])) p = _
    rw [show y :: (t ++ [(m, q)]) = (y :: t) ++ [(m, q)] from rfl, ih]
    by_cases c : q = p
    · rw [if_pos c, if_pos c]
      rfl
    · rw [if_neg c, if_neg c]
      rfl
theorem runCons_step (q p : Int) : ∀ L : List (Int × Int), runCons q (runStep L p) = runStep (runCons q L) p
  | [] => by
    show (if q = p then [(1 + 1, p)] else [(1, q), (1, p)]) = (if q = p then [(1 + 1, p)] else [(1, q), (1, p)])
    rfl
  | [x] => by
    show runCons q (if x.2 = p then [(x.1 + 1, p)] else [x, (1, p)]) = runStep (if q = x.2 then [(x.1 + 1, x.2)] else [(1, q), x]) p
    by_cases c1 : x.2 = p
    · rw [if_pos c1]
      show (if q = p then [(x.1 + 1 + 1, p)] else [(1, q), (x.1 + 1, p)]) = _
      by_cases c2 : q = x.2
      · rw [if_pos c2, if_pos (c2.trans c1)]
        show _ = (if x.2 = p then [(x.1 + 1 + 1, p)] else [(x.1 + 1, x.2), (1, p)])
        rw [if_pos c1]
      · rw [if_neg c2, if_neg (fun z => c2 (z.trans c1.symm))]
        show _ = (1, q) :: (if x.2 = p then [(x.1 + 1, p)] else [x, (1, p)])
        rw [if_pos c1]
    · rw [if_neg c1]
      show (if q = x.2 then (x.1 + 1, x.2) :: [(1, p)] else (1, q) :: x :: [(1, p)]) = _
      by_cases c2 : q = x.2
      · rw [if_pos c2, if_pos c2]
        show _ = (if x.2 = p then [(x.1 + 1 + 1, p)] else [(x.1 + 1, x.2), (1, p)])
        rw [if_neg c1]
      · rw [if_neg c2, if_neg c2]
        show _ = (1, q) :: (if x.2 = p then [(x.1 + 1, p)] else [x, (1, p)])
        rw [if_neg c1]
  | x :: y :: t => by
    show runCons q (x :: runStep (y :: t) p) = runStep (if q = x.2 then (x.1 + 1, x.2) :: y :: t else (1, q) :: x :: y :: t) p
    show (if q = x.2 then (x.1 + 1, x.2) :: runStep (y :: t) p else (1, q) :: x :: runStep (y :: t) p) = _
    by_cases c2 : q = x.2
    · rw [if_pos c2, if_pos c2]
      rfl
    · rw [if_neg c2, if_neg c2]
      rfl
theorem runsI_end : ∀ (l : List Int) (p : Int), runsI (l ++ [p]) = runStep (runsI l) p
  | [], _ => rfl
  | q :: r, p => by
    show runCons q (runsI (r ++ [p])) = runStep (runCons q (runsI r)) p
    rw [runsI_end r p, runCons_step]
theorem runs_more {l : List Int} {i : Nat} {p : Int} (h : l[i]? = some p) : runsI (l.take (i + 1)) = runStep (runsI (l.take i)) p := by
  rw [List.take_add_one, h]
  exact runsI_end _ _
/-- how many points, and paints -/
theorem runsI_ok : ∀ {l : List Int}, Byt l → (∀ x, x ∈ runsI l → 1 ≤ x.1 ∧ x.1 ≤ (l.length : Int) ∧ 0 ≤ x.2 ∧ x.2 ≤ 255)
  | [], _, x, h => absurd h (by simp [runsI])
  | q :: r, hb, x, h => by
    have ih := runsI_ok (l := r) fun y hy => hb y (List.mem_cons_of_mem _ hy)
    have hq := hb q (List.mem_cons_self ..)
    have h' : x ∈ runCons q (runsI r) := h
    have el : ((q :: r).length : Int) = (r.length : Int) + 1 := by simp
    rw [el]
    cases hr : runsI r with
    | nil =>
      rw [hr] at h'
      have e : x = (1, q) := by simpa [runCons] using h'
      subst e
      exact ⟨Int.le_refl 1, by omega, hq.1, hq.2⟩
    | cons y t =>
      rw [hr] at h' ih
      have h2 : x ∈ (if q = y.2 then (y.1 + 1, y.2) :: t else (1, q) :: y :: t) := h'
      have hy := ih y (List.mem_cons_self ..)
      by_cases c : q = y.2
      · rw [if_pos c] at h2
        rcases List.mem_cons.mp h2 with e | e
        · subst e
          exact ⟨by show 1 ≤ y.1 + 1; omega, by show y.1 + 1 ≤ _; omega, hy.2.2⟩
        · have := ih x (List.mem_cons_of_mem _ e)
          exact ⟨this.1, by omega, this.2.2⟩
      · rw [if_neg c] at h2
        rcases List.mem_cons.mp h2 with e | e
        · subst e
          exact ⟨Int.le_refl 1, by show (1 : Int) ≤ _; omega, hq.1, hq.2⟩
        · have := ih x e
          exact ⟨this.1, by omega, this.2.2⟩
theorem runsI_len : ∀ l : List Int, (runsI l).length ≤ l.length
  | [] => Nat.le_refl _
  | q :: r => by
    have ih := runsI_len r
    show (runCons q (runsI r)).length ≤ r.length + 1
    cases hr : runsI r with
    | nil => simp [runCons]
    | cons y t =>
      rw [hr] at ih
      show (if q = y.2 then (y.1 + 1, y.2) :: t else (1, q) :: y :: t).length ≤ r.length + 1
      by_cases c : q = y.2
      · rw [if_pos c]
        simp only [List.length_cons] at ih ⊢
        omega
      · rw [if_neg c]
        simp only [List.length_cons] at ih ⊢
        omega
theorem runs_spec : ∀ {l : List Int}, Byt l → (CeSheet.runsOf (Neutral.text l)).map (fun (x : Nat × UInt8) => ((x.1 : Int), un x.2)) = runsI l
  | [], _ => rfl
  | q :: r, h => by
    have ih := runs_spec (l := r) fun y hy => h y (List.mem_cons_of_mem _ hy)
    have hq := h q (List.mem_cons_self ..)
    have hr := runsI_ok (l := r) fun y hy => h y (List.mem_cons_of_mem _ hy)
    show (match CeSheet.runsOf (Neutral.text r) with
      | x :: l => if u8 q = x.2 then (x.1 + 1, x.2) :: l else (1, u8 q) :: x :: l
      | [] => [(1, u8 q)]).map _ = runCons q (runsI r)
    cases hs : CeSheet.runsOf (Neutral.text r) with
    | nil =>
      rw [hs] at ih
      rw [← ih]
      show [(((1 : Nat) : Int), un (u8 q))] = [(1, q)]
      rw [un_u8 hq]
      rfl
    | cons x l =>
      rw [hs] at ih
      rw [← ih]
      show (if u8 q = x.2 then (x.1 + 1, x.2) :: l else (1, u8 q) :: x :: l).map (fun (x : Nat × UInt8) => ((x.1 : Int), un x.2)) =
        (if q = un x.2 then (((x.1 : Nat) : Int) + 1, un x.2) :: l.map (fun (x : Nat × UInt8) => ((x.1 : Int), un x.2)) else (1, q) :: ((x.1 : Int), un x.2) :: l.map (fun (x : Nat × UInt8) => ((x.1 : Int), un x.2)))
      by_cases c : u8 q = x.2
      · have c' : q = un x.2 := by rw [← c, un_u8 hq]
        rw [if_pos c, if_pos c']
        rfl
      · have c' : ¬ q = un x.2 := fun z => c (by rw [z, u8_un])
        rw [if_neg c, if_neg c']
        show (((1 : Nat) : Int), un (u8 q)) :: _ = _
        rw [un_u8 hq]
        rfl
def rowB (l : List Int) : List Int := (runsI l).flatMap fun (x : Int × Int) => [x.1 - 1, x.2]
theorem low_un (n : Nat) (h : n ≤ 256) : (CeSheet.low2 n).map un = [(n : Int) % 256, (n : Int) / 256] := by
  unfold CeSheet.low2
  show [un (UInt8.ofNat (n % 256)), un (UInt8.ofNat (n / 256 % 256))] = _
  unfold un
  rw [UInt8.toNat_ofNat', UInt8.toNat_ofNat']
  have e1 : n % 256 % 2 ^ 8 = n % 256 := Nat.mod_eq_of_lt (by omega)
  have e2 : n / 256 % 256 % 2 ^ 8 = n / 256 := by omega
  rw [e1, e2]
  rfl
theorem rowB_spec {l : List Int} (h : Byt l) (hl : l.length ≤ 256) : (CeSheet.rowBytes (Neutral.text l)).map un = rowB l := by
  have hr := runs_spec h
  have ho := runsI_ok h
  unfold CeSheet.rowBytes rowB
  rw [← hr] at ho ⊢
  generalize CeSheet.runsOf (Neutral.text l) = R at ho
  clear hr
  induction R with
  | nil => rfl
  | cons x t ih =>
    have hx := ho (((x.1 : Nat) : Int), un x.2) (List.mem_cons_self ..)
    have e := ih fun y hy => ho y (List.mem_cons_of_mem _ hy)
    rw [List.flatMap_cons, List.map_append, e]
    show [un (UInt8.ofNat (x.1 - 1)), un x.2] ++ _ = [((x.1 : Nat) : Int) - 1, un x.2] ++ _
    have e2 : un (UInt8.ofNat (x.1 - 1)) = ((x.1 : Nat) : Int) - 1 := by
      unfold un
      rw [UInt8.toNat_ofNat']
      have h1 : (1 : Int) ≤ (x.1 : Int) := hx.1
      have h2 : (x.1 : Int) ≤ (l.length : Int) := hx.2.1
      have z : (x.1 - 1) % 2 ^ 8 = x.1 - 1 := Nat.mod_eq_of_lt (by omega)
      rw [z]
      omega
    rw [e2]
    rfl
def rowAt (w : Nat) (a : List Int) (y : Nat) : List Int := (a.drop (y * w)).take w
theorem rows_spec (w : Nat) : ∀ (k : Nat) (l : List Int), CeSheet.rowsOf w k (Neutral.text l) = (List.range k).map fun y => Neutral.text (rowAt w l y)
  | 0, _ => rfl
  | k + 1, l => by
    show (Neutral.text l).take w :: CeSheet.rowsOf w k ((Neutral.text l).drop w) = _
    have e1 : (Neutral.text l).drop w = Neutral.text (l.drop w) := by
      rw [text_eq, text_eq, List.map_drop]
    rw [e1, rows_spec w k, List.range_succ_eq_map, List.map_cons, List.map_map]
    congr 1
    · rw [text_eq, text_eq, ← List.map_take]
      unfold rowAt
      rw [Nat.zero_mul, List.drop_zero]
    · refine List.map_congr_left fun y _ => ?_
      show Neutral.text (rowAt w (l.drop w) y) = Neutral.text (rowAt w l (y + 1))
      unfold rowAt
      rw [List.drop_drop, Nat.add_mul, Nat.one_mul, Nat.add_comm w (y * w)]
def keepL (w h : Int) (a : List Int) : List Int := [67, 69, 76, 49] ++ [w % 256, w / 256] ++ [h % 256, h / 256] ++ (List.range h.toNat).flatMap fun y => rowB (rowAt w.toNat a y)
theorem Byt.rowAt {a : List Int} (h : Byt a) (w y : Nat) : Byt (rowAt w a y) := fun z hz => h z (List.mem_of_mem_drop (List.mem_of_mem_take hz))
theorem keep_un {w h : Int} {a : List Int} (hw : 1 ≤ w ∧ w ≤ 256) (hh : 1 ≤ h ∧ h ≤ 256) (ha : Byt a) : (CeSheet.Sheet.bytes ⟨w.toNat, h.toNat, Neutral.text a⟩).map un = keepL w h a := by
  unfold CeSheet.Sheet.bytes keepL
  show (CeSheet.MARK ++ (CeSheet.low2 w.toNat ++ (CeSheet.low2 h.toNat ++ (CeSheet.rowsOf w.toNat h.toNat (Neutral.text a)).flatMap CeSheet.rowBytes))).map un = _
  rw [List.map_append, List.map_append, List.map_append, low_un _ (by omega), low_un _ (by omega), rows_spec, Int.toNat_of_nonneg (by omega), Int.toNat_of_nonneg (by omega), List.append_assoc, List.append_assoc]
  congr 3
  rw [List.map_flatMap, List.flatMap_map]
  refine congrArg (fun f => List.flatMap f (List.range h.toNat)) (funext fun y => ?_)
  refine rowB_spec (ha.rowAt _ _) ?_
  unfold Pm.rowAt
  rw [List.length_take]
  omega
def keep (w h : Int) (a : List Int) : List Int := if pts w h a = true then ((keepL w h a).length : Int) :: keepL w h a else [-1]
theorem keep_is {w h : Int} {a : List Int} (h1 : Byt a) : PyWqasbp.keep w h a = keep w h a := by
  show Neutral.shown (if CeSheetSpec.pointsOk (Neutral.text a) w.toNat h.toNat = true then .bytes (CeSheet.Sheet.bytes ⟨w.toNat, h.toNat, Neutral.text a⟩) else CeSheetSpec.no 1) = _
  unfold keep
  rw [pts_spec]
  by_cases c : pts w h a = true
  · have q := pts_iff.mp c
    have m := keep_un q.1 q.2.1 h1
    rw [if_pos c, if_pos c, shown_bytes, m]
    have e := congrArg List.length m
    rw [List.length_map] at e
    rw [e]
  · rw [if_neg c, if_neg c]
    rfl
end Pm
namespace Pm
/-! ### bytes read -/
abbrev Res (α : Type) := Except (Nat × Nat) α
def rowI : Nat → Option Int → Nat → List Int → Res (List Int × Nat × List Int)
  | 0, _, p, b => .ok ([], p, b)
  | _ + 1, _, p, [] => .error (3, p)
  | _ + 1, _, p, [_] => .error (3, p + 1)
  | left + 1, last, p, n :: q :: r =>
    if left < n.toNat then .error (4, p) else if last = some q then .error (5, p) else match rowI (left - n.toNat) (some q) (p + 2) r with
      | .ok x => .ok (List.replicate (n.toNat + 1) q ++ x.1, x.2)
      | .error e => .error e
def rowsI (w : Nat) : Nat → Nat → List Int → Res (List Int)
  | 0, _, [] => .ok []
  | 0, p, _ :: _ => .error (6, p)
  | h + 1, p, b => match rowI w none p b with
    | .error e => .error e
    | .ok x => match rowsI w h x.2.1 x.2.2 with
      | .error e => .error e
      | .ok l => .ok (x.1 ++ l)
def numI (b : List Int) (i : Nat) : Int := b.getD i 0 + 256 * b.getD (i + 1) 0
def markI : List Int := [67, 69, 76, 49]
def judgeI (b : List Int) : Res (Int × Int × List Int) :=
  if b.length < 8 ∨ b.take 4 ≠ markI then .error (1, 0)
  else if side (numI b 4) = false then .error (2, 4)
  else if side (numI b 6) = false then .error (2, 6)
  else match rowsI (numI b 4).toNat (numI b 6).toNat 8 (b.drop 8) with
    | .error e => .error e
    | .ok l => .ok (numI b 4, numI b 6, l)
theorem Byt.tail {z : Int} {l : List Int} (h : Byt (z :: l)) : Byt l := fun y hy => h y (List.mem_cons_of_mem _ hy)
theorem Byt.head {z : Int} {l : List Int} (h : Byt (z :: l)) : 0 ≤ z ∧ z ≤ 255 := h z (List.mem_cons_self ..)
theorem Byt.drop {l : List Int} (h : Byt l) (n : Nat) : Byt (l.drop n) := fun y hy => h y (List.mem_of_mem_drop hy)
def BytO (o : Option Int) : Prop := ∀ z, o = some z → 0 ≤ z ∧ z ≤ 255
theorem replicate_text (n : Nat) (q : Int) : Neutral.text (List.replicate n q) = List.replicate n (u8 q) := by
  rw [text_eq, List.map_replicate]
theorem text_append (a b : List Int) : Neutral.text (a ++ b) = Neutral.text a ++ Neutral.text b := by
  rw [text_eq, text_eq, text_eq, List.map_append]
def liftR (x : List Int × Nat × List Int) : CeSheet.Bytes × Nat × CeSheet.Bytes := (Neutral.text x.1, x.2.1, Neutral.text x.2.2)
def mapOk {α β : Type} (f : α → β) : Res α → Res β
  | .ok x => .ok (f x)
  | .error e => .error e
theorem row_spec (k : Nat) : ∀ (left : Nat) (last : Option Int) (p : Nat) (b : List Int), b.length ≤ k → Byt b → BytO last → CeSheet.rowIn left (last.map u8) p (Neutral.text b) = mapOk liftR (rowI left last p b) ∧ (∀ x, rowI left last p b = .ok x → Byt x.1 ∧ Byt x.2.2) := by
  induction k with
  | zero =>
    intro left last p b hk hb ho
    cases b with
    | cons z r => exact absurd hk (by simp)
    | nil =>
      cases left with
      | zero =>
        refine ⟨by rw [rowI, CeSheet.rowIn]; rfl, fun x e => ?_⟩
        rw [rowI] at e
        cases e
        exact ⟨fun z h => absurd h (by simp), hb⟩
      | succ left =>
        refine ⟨by show CeSheet.rowIn (left + 1) _ p [] = _; rw [rowI, CeSheet.rowIn]; rfl, fun x e => ?_⟩
        rw [rowI] at e
        cases e
  | succ k ih =>
    intro left last p b hk hb ho
    cases left with
    | zero =>
      refine ⟨by rw [rowI, CeSheet.rowIn]; rfl, fun x e => ?_⟩
      rw [rowI] at e
      cases e
      exact ⟨fun z h => absurd h (by simp), hb⟩
    | succ left =>
      match b, hk, hb with
      | [], _, _ =>
        refine ⟨by show CeSheet.rowIn (left + 1) _ p [] = _; rw [rowI, CeSheet.rowIn]; rfl, fun x e => ?_⟩
        rw [rowI] at e
        cases e
      | [z], _, _ =>
        refine ⟨by show CeSheet.rowIn (left + 1) _ p [u8 z] = _; rw [rowI, CeSheet.rowIn]; rfl, fun x e => ?_⟩
        rw [rowI] at e
        cases e
      | n :: q :: r, hk, hb =>
        have hn := hb.head
        have hq := hb.tail.head
        have hr := hb.tail.tail
        obtain ⟨i1, i2⟩ := ih (left - n.toNat) (some q) (p + 2) r (by simp only [List.length_cons] at hk; omega) hr (fun z e => by cases e; exact hq)
        have e1 : CeSheet.rowIn (left + 1) (last.map u8) p (Neutral.text (n :: q :: r)) = CeSheet.rowIn (left + 1) (last.map u8) p (u8 n :: u8 q :: Neutral.text r) := rfl
        have eq : (last.map u8 = some (u8 q)) ↔ last = some q := by
          cases hl : last with
          | none => simp
          | some y =>
            show some (u8 y) = some (u8 q) ↔ _
            rw [Option.some.injEq, Option.some.injEq]
            exact u8_inj (ho y hl) hq
        have i1' : CeSheet.rowIn (left - n.toNat) (some (u8 q)) (p + 2) (Neutral.text r) = mapOk liftR (rowI (left - n.toNat) (some q) (p + 2) r) := i1
        constructor
        · rw [e1, CeSheet.rowIn, rowI, u8_toNat hn, i1']
          by_cases c1 : left < n.toNat
          · rw [if_pos c1, if_pos c1]
            rfl
          · rw [if_neg c1, if_neg c1]
            by_cases c2 : last = some q
            · rw [if_pos c2, if_pos (eq.mpr c2)]
              rfl
            · rw [if_neg c2, if_neg (fun z => c2 (eq.mp z))]
              cases rowI (left - n.toNat) (some q) (p + 2) r with
              | error e => rfl
              | ok x =>
                show Except.ok (List.replicate (n.toNat + 1) (u8 q) ++ Neutral.text x.1, x.2.1, Neutral.text x.2.2) = Except.ok (Neutral.text (List.replicate (n.toNat + 1) q ++ x.1), x.2.1, Neutral.text x.2.2)
                rw [text_append, replicate_text]
        · intro x e
          rw [rowI] at e
          by_cases c1 : left < n.toNat
          · rw [if_pos c1] at e
            cases e
          · rw [if_neg c1] at e
            by_cases c2 : last = some q
            · rw [if_pos c2] at e
              cases e
            · rw [if_neg c2] at e
              cases hx : rowI (left - n.toNat) (some q) (p + 2) r with
              | error e' =>
                rw [hx] at e
                cases e
              | ok y =>
                rw [hx] at e
                have e' : (List.replicate (n.toNat + 1) q ++ y.1, y.2) = x := Except.ok.inj e
                obtain ⟨y1, y2⟩ := i2 y hx
                rw [← e']
                refine ⟨fun z hz => ?_, y2⟩
                rcases List.mem_append.mp hz with h | h
                · rw [(List.mem_replicate.mp h).2]
                  exact hq
                · exact y1 z h
theorem rows_ok (w : Nat) : ∀ (h p : Nat) (b : List Int), Byt b → CeSheet.rowsIn w h p (Neutral.text b) = mapOk Neutral.text (rowsI w h p b) ∧ (∀ l, rowsI w h p b = .ok l → Byt l)
  | 0, p, [], _ => by
    refine ⟨by show CeSheet.rowsIn w 0 p [] = _; rw [CeSheet.rowsIn, rowsI]; rfl, fun l e => ?_⟩
    rw [rowsI] at e
    cases e
    exact fun z h => absurd h (by simp)
  | 0, p, z :: r, _ => by
    refine ⟨by show CeSheet.rowsIn w 0 p (u8 z :: Neutral.text r) = _; rw [CeSheet.rowsIn, rowsI]; rfl, fun l e => ?_⟩
    rw [rowsI] at e
    cases e
  | h + 1, p, b, hb => by
    obtain ⟨e1, e2⟩ := row_spec b.length w none p b (Nat.le_refl _) hb (fun z e => by cases e)
    have e1' : CeSheet.rowIn w none p (Neutral.text b) = mapOk liftR (rowI w none p b) := e1
    rw [CeSheet.rowsIn, rowsI, e1']
    cases hx : rowI w none p b with
    | error e => exact ⟨rfl, fun l q => by cases q⟩
    | ok x =>
      obtain ⟨b1, b2⟩ := e2 x hx
      obtain ⟨i1, i2⟩ := rows_ok w h x.2.1 x.2.2 b2
      show (match CeSheet.rowsIn w h x.2.1 (Neutral.text x.2.2) with
        | .error e => (.error e : Res CeSheet.Bytes)
        | .ok l => .ok (Neutral.text x.1 ++ l)) = mapOk Neutral.text (match rowsI w h x.2.1 x.2.2 with
        | .error e => (.error e : Res (List Int))
        | .ok l => .ok (x.1 ++ l)) ∧ ∀ l, (match rowsI w h x.2.1 x.2.2 with
        | .error e => (.error e : Res (List Int))
        | .ok l => .ok (x.1 ++ l)) = .ok l → Byt l
      rw [i1]
      cases hy : rowsI w h x.2.1 x.2.2 with
      | error e => exact ⟨rfl, fun l q => by cases q⟩
      | ok l =>
        refine ⟨?_, fun l' q => ?_⟩
        · show Except.ok (Neutral.text x.1 ++ Neutral.text l) = Except.ok (Neutral.text (x.1 ++ l))
          rw [text_append]
        · have q' : x.1 ++ l = l' := Except.ok.inj q
          rw [← q']
          exact fun z hz => (List.mem_append.mp hz).elim (b1 z) (i2 l hy z)
theorem num_spec {b : List Int} (hb : Byt b) (i : Nat) : ((CeSheet.num2 (Neutral.text b) i : Nat) : Int) = numI b i := by
  unfold CeSheet.num2 numI
  rw [text_getD, text_getD, u8_toNat (hb.getD _), u8_toNat (hb.getD _)]
  have h1 := hb.getD i
  have h2 := hb.getD (i + 1)
  omega
theorem mark_spec {b : List Int} (hb : Byt b) : (Neutral.text b).take 4 = CeSheet.MARK ↔ b.take 4 = markI := by
  have e : (Neutral.text b).take 4 = Neutral.text (b.take 4) := by
    rw [text_eq, text_eq, List.map_take]
  have hm : CeSheet.MARK = Neutral.text markI := rfl
  rw [e, hm]
  constructor
  · intro h
    have h2 := congrArg (List.map un) h
    rw [un_text (fun z hz => hb z (List.mem_of_mem_take hz)), un_text (by unfold Byt markI; intro z hz; simp at hz; omega)] at h2
    exact h2
  · intro h
    rw [h]
def sheetOf (x : Int × Int × List Int) : CeSheet.Sheet := ⟨x.1.toNat, x.2.1.toNat, Neutral.text x.2.2⟩
theorem judge_spec {b : List Int} (hb : Byt b) : CeSheet.judge (Neutral.text b) = mapOk sheetOf (judgeI b) ∧ (∀ x, judgeI b = .ok x → Byt x.2.2 ∧ 0 ≤ x.1 ∧ 0 ≤ x.2.1) := by
  unfold CeSheet.judge judgeI
  have n4 := num_spec hb 4
  have n6 := num_spec hb 6
  generalize CeSheet.num2 (Neutral.text b) 4 = w at n4
  generalize CeSheet.num2 (Neutral.text b) 6 = h at n6
  rw [← n4, ← n6]
  have cs : ∀ n : Nat, (n < 1 ∨ CeSheet.SIDE < n) ↔ side (n : Int) = false := fun n => by
    unfold side CeSheet.SIDE
    rw [Bool.and_eq_false_iff, decide_eq_false_iff_not, decide_eq_false_iff_not]
    omega
  by_cases c1 : b.length < 8 ∨ b.take 4 ≠ markI
  · have c1' : (Neutral.text b).length < 8 ∨ (Neutral.text b).take 4 ≠ CeSheet.MARK := by
      rw [text_len]
      rcases c1 with c | c
      · exact .inl c
      · exact .inr fun q => c ((mark_spec hb).mp q)
    rw [if_pos c1, if_pos c1']
    exact ⟨rfl, fun x e => by cases e⟩
  · have c1' : ¬ ((Neutral.text b).length < 8 ∨ (Neutral.text b).take 4 ≠ CeSheet.MARK) := by
      rw [text_len]
      rintro (c | c)
      · exact c1 (.inl c)
      · exact c1 (.inr fun q => c ((mark_spec hb).mpr q))
    rw [if_neg c1, if_neg c1']
    by_cases c2 : side (w : Int) = false
    · rw [if_pos c2, if_pos ((cs w).mpr c2)]
      exact ⟨rfl, fun x e => by cases e⟩
    · rw [if_neg c2, if_neg (fun q => c2 ((cs w).mp q))]
      by_cases c3 : side (h : Int) = false
      · rw [if_pos c3, if_pos ((cs h).mpr c3)]
        exact ⟨rfl, fun x e => by cases e⟩
      · rw [if_neg c3, if_neg (fun q => c3 ((cs h).mp q))]
        obtain ⟨r1, r2⟩ := rows_ok w h 8 (b.drop 8) (hb.drop 8)
        have ed : (Neutral.text b).drop 8 = Neutral.text (b.drop 8) := by
          rw [text_eq, text_eq, List.map_drop]
        rw [ed, r1, Int.toNat_natCast, Int.toNat_natCast]
        cases hx : rowsI w h 8 (b.drop 8) with
        | error e => exact ⟨rfl, fun x e => by cases e⟩
        | ok l =>
          refine ⟨?_, fun x e => ?_⟩
          · show Except.ok (⟨w, h, Neutral.text l⟩ : CeSheet.Sheet) = Except.ok ⟨((w : Int)).toNat, ((h : Int)).toNat, Neutral.text l⟩
            rw [Int.toNat_natCast, Int.toNat_natCast]
          · have e' : ((w : Int), (h : Int), l) = x := Except.ok.inj e
            rw [← e']
            exact ⟨r2 l hx, Int.natCast_nonneg _, Int.natCast_nonneg _⟩
def judge (b : List Int) : List Int := match judgeI b with
  | .error e => [-6, (e.1 : Int), (e.2 : Int)]
  | .ok _ => [0]
def size (b : List Int) : List Int := match judgeI b with
  | .error _ => [-6]
  | .ok x => [x.1, x.2.1]
def openOf (b : List Int) : List Int := match judgeI b with
  | .error _ => [-6]
  | .ok x => (x.2.2.length : Int) :: x.2.2
theorem looked {b : List Int} (hl : b.length ≤ 6144) : ¬ CeSheetSpec.LOOKED < (Neutral.text b).length := by
  rw [text_len]
  unfold CeSheetSpec.LOOKED
  omega
theorem judge_is {b : List Int} (hl : b.length ≤ 6144) (hb : Byt b) : PyWqasbp.judge b = judge b := by
  show Neutral.shown (if CeSheetSpec.LOOKED < (Neutral.text b).length then CeSheetSpec.no 2 else (match CeSheet.judge (Neutral.text b) with
    | .error e => .refused 6 [e.1, e.2]
    | .ok _ => .nums [0])) = _
  rw [if_neg (looked hl), (judge_spec hb).1]
  unfold judge
  cases judgeI b <;> rfl
theorem size_is {b : List Int} (hl : b.length ≤ 6144) (hb : Byt b) : PyWqasbp.size b = size b := by
  show Neutral.shown (if CeSheetSpec.LOOKED < (Neutral.text b).length then CeSheetSpec.no 2 else (match CeSheet.judge (Neutral.text b) with
    | .error _ => CeSheetSpec.no 6
    | .ok s => .nums [s.wide, s.high])) = _
  obtain ⟨j1, j2⟩ := judge_spec hb
  rw [if_neg (looked hl), j1]
  unfold size
  cases hx : judgeI b with
  | error e => rfl
  | ok x =>
    obtain ⟨_, h1, h2⟩ := j2 x hx
    show [((x.1.toNat : Nat) : Int), ((x.2.1.toNat : Nat) : Int)] = [x.1, x.2.1]
    rw [Int.toNat_of_nonneg h1, Int.toNat_of_nonneg h2]
theorem open_is {b : List Int} (hl : b.length ≤ 6144) (hb : Byt b) : PyWqasbp.open_of b = openOf b := by
  show Neutral.shown (if CeSheetSpec.LOOKED < (Neutral.text b).length then CeSheetSpec.no 2 else (match CeSheet.judge (Neutral.text b) with
    | .error _ => CeSheetSpec.no 6
    | .ok s => .bytes s.paints)) = _
  obtain ⟨j1, j2⟩ := judge_spec hb
  rw [if_neg (looked hl), j1]
  unfold openOf
  cases hx : judgeI b with
  | error e => rfl
  | ok x =>
    obtain ⟨h0, _, _⟩ := j2 x hx
    show ((Neutral.text x.2.2).length : Int) :: (Neutral.text x.2.2).map un = _
    rw [text_len, un_text h0]
/-! ### what the reader's defs do -/
/-- one run -/
def runR (b : List Int) (at_ left : Nat) (last : Option Int) : Res (List Int) :=
  if b.length < at_ + 2 then .error (3, b.length)
  else if (left : Int) < b.getD at_ 0 + 1 then .error (4, at_)
  else if last = some (b.getD (at_ + 1) 0) then .error (5, at_)
  else .ok (List.replicate (b.getD at_ 0 + 1).toNat (b.getD (at_ + 1) 0))
def prep (f : List Int) : Res (List Int × Nat × List Int) → Res (List Int × Nat × List Int) := mapOk fun x => (f ++ x.1, x.2)
theorem run_row {b : List Int} (hb : Byt b) {at_ left : Nat} {last : Option Int} (h1 : at_ ≤ b.length) (h2 : 0 < left) :
    (∀ e, runR b at_ left last = .error e → rowI left last at_ (b.drop at_) = .error e) ∧
    (∀ l, runR b at_ left last = .ok l → at_ + 2 ≤ b.length ∧ 0 < l.length ∧ l.length ≤ left ∧ l.length ≤ 256 ∧ l.getLast? = some (b.getD (at_ + 1) 0) ∧ rowI left last at_ (b.drop at_) = prep l (rowI (left - l.length) (some (b.getD (at_ + 1) 0)) (at_ + 2) (b.drop (at_ + 2)))) := by
  obtain ⟨left, rfl⟩ : ∃ k, left = k + 1 := ⟨left - 1, by omega⟩
  unfold runR
  by_cases c1 : b.length < at_ + 2
  · rw [if_pos c1]
    refine ⟨fun e he => ?_, fun l he => by cases he⟩
    have he' : (3, b.length) = e := Except.error.inj he
    rw [← he']
    by_cases c2 : at_ = b.length
    · have e0 : b.drop at_ = [] := by rw [List.drop_eq_nil_iff]; omega
      rw [e0, rowI, c2]
    · have hlt : at_ < b.length := by omega
      have e0 : b.drop at_ = [b[at_]] := by
        rw [List.drop_eq_getElem_cons hlt, List.drop_eq_nil_iff.mpr (by omega)]
      rw [e0, rowI]
      congr 2
      omega
  · rw [if_neg c1]
    have hlt : at_ < b.length := by omega
    have hlt2 : at_ + 1 < b.length := by omega
    have e0 : b.drop at_ = b.getD at_ 0 :: b.getD (at_ + 1) 0 :: b.drop (at_ + 2) := by
      rw [List.drop_eq_getElem_cons hlt, List.drop_eq_getElem_cons hlt2, List.getD_eq_getElem?_getD, List.getD_eq_getElem?_getD, List.getElem?_eq_getElem hlt, List.getElem?_eq_getElem hlt2]
      rfl
    have hn := hb.getD at_
    rw [e0]
    generalize b.getD at_ 0 = n at hn
    generalize b.getD (at_ + 1) 0 = q
    by_cases c2 : ((left + 1 : Nat) : Int) < n + 1
    · rw [if_pos c2]
      refine ⟨fun e he => ?_, fun l he => by cases he⟩
      have he' : (4, at_) = e := Except.error.inj he
      rw [← he', rowI, if_pos (by omega)]
    · rw [if_neg c2]
      have c2' : ¬ left < n.toNat := by omega
      by_cases c3 : last = some q
      · rw [if_pos c3]
        refine ⟨fun e he => ?_, fun l he => by cases he⟩
        have he' : (5, at_) = e := Except.error.inj he
        rw [← he', rowI, if_neg c2', if_pos c3]
      · rw [if_neg c3]
        refine ⟨fun e he => (by cases he), fun l he => ?_⟩
        have he' : List.replicate (n + 1).toNat q = l := Except.ok.inj he
        have en : (n + 1).toNat = n.toNat + 1 := by omega
        rw [en] at he'
        have el : l.length = n.toNat + 1 := by rw [← he', List.length_replicate]
        refine ⟨by omega, by omega, by omega, by omega, ?_, ?_⟩
        · rw [← he', List.replicate_succ', List.getLast?_append]
          rfl
        · rw [rowI, if_neg c2', if_neg c3, el]
          have ex : left + 1 - (n.toNat + 1) = left - n.toNat := by omega
          rw [ex, he'.symm]
          cases rowI (left - n.toNat) (some q) (at_ + 2) (b.drop (at_ + 2)) <;> rfl
theorem prep_prep (f g : List Int) (r : Res (List Int × Nat × List Int)) : prep f (prep g r) = prep (f ++ g) r := by
  cases r with
  | error e => rfl
  | ok x =>
    show Except.ok (f ++ (g ++ x.1), x.2) = Except.ok (f ++ g ++ x.1, x.2)
    rw [List.append_assoc]
/-- what a whole row leaves: its length, its end -/
theorem row_ok (k : Nat) : ∀ (left : Nat) (last : Option Int) (p : Nat) (b : List Int), b.length ≤ k → ∀ x, rowI left last p b = .ok x → x.1.length = left ∧ p ≤ x.2.1 ∧ x.2.2 = b.drop (x.2.1 - p) := by
  induction k with
  | zero =>
    intro left last p b hk x e
    cases b with
    | cons z r => exact absurd hk (by simp)
    | nil =>
      cases left with
      | zero =>
        rw [rowI] at e
        cases e
        exact ⟨rfl, Nat.le_refl _, by simp⟩
      | succ left =>
        rw [rowI] at e
        cases e
  | succ k ih =>
    intro left last p b hk x e
    cases left with
    | zero =>
      rw [rowI] at e
      cases e
      exact ⟨rfl, Nat.le_refl _, by simp⟩
    | succ left =>
      match b, hk with
      | [], _ =>
        rw [rowI] at e
        cases e
      | [z], _ =>
        rw [rowI] at e
        cases e
      | n :: q :: r, hk =>
        rw [rowI] at e
        by_cases c1 : left < n.toNat
        · rw [if_pos c1] at e
          cases e
        · rw [if_neg c1] at e
          by_cases c2 : last = some q
          · rw [if_pos c2] at e
            cases e
          · rw [if_neg c2] at e
            cases hx : rowI (left - n.toNat) (some q) (p + 2) r with
            | error e' =>
              rw [hx] at e
              cases e
            | ok y =>
              rw [hx] at e
              have e' : (List.replicate (n.toNat + 1) q ++ y.1, y.2) = x := Except.ok.inj e
              obtain ⟨y1, y2, y3⟩ := ih _ _ _ r (by simp only [List.length_cons] at hk; omega) y hx
              rw [← e']
              refine ⟨?_, by show p ≤ y.2.1; omega, ?_⟩
              · rw [List.length_append, List.length_replicate, y1]
                omega
              · show y.2.2 = (n :: q :: r).drop (y.2.1 - p)
                have ez : y.2.1 - p = (y.2.1 - (p + 2)) + 2 := by omega
                rw [ez, y3]
                rfl
/-- .. read off the whole bytes -/
theorem row_at {b : List Int} {w p : Nat} {last : Option Int} {x : List Int × Nat × List Int} (h : rowI w last p (b.drop p) = .ok x) : x.1.length = w ∧ p ≤ x.2.1 ∧ x.2.2 = b.drop x.2.1 := by
  obtain ⟨h1, h2, h3⟩ := row_ok _ w last p (b.drop p) (Nat.le_refl _) x h
  refine ⟨h1, h2, ?_⟩
  rw [h3, List.drop_drop]
  congr 1
  omega
def prepL (f : List Int) : Res (List Int) → Res (List Int) := mapOk fun l => f ++ l
theorem prepL_prepL (f g : List Int) (r : Res (List Int)) : prepL f (prepL g r) = prepL (f ++ g) r := by
  cases r with
  | error e => rfl
  | ok l =>
    show Except.ok (f ++ (g ++ l)) = Except.ok (f ++ g ++ l)
    rw [List.append_assoc]
theorem rows_err {b : List Int} {w h p : Nat} {e : Nat × Nat} (c : rowI w none p (b.drop p) = .error e) : rowsI w (h + 1) p (b.drop p) = .error e := by
  rw [rowsI, c]
theorem rows_step {b : List Int} {w h p : Nat} {x : List Int × Nat × List Int} (c : rowI w none p (b.drop p) = .ok x) : rowsI w (h + 1) p (b.drop p) = prepL x.1 (rowsI w h x.2.1 (b.drop x.2.1)) := by
  obtain ⟨_, _, e⟩ := row_at c
  rw [rowsI, c]
  show (match rowsI w h x.2.1 x.2.2 with
    | .error e => (.error e : Res (List Int))
    | .ok l => .ok (x.1 ++ l)) = _
  rw [e]
  cases rowsI w h x.2.1 (b.drop x.2.1) <;> rfl
theorem rows_end {b : List Int} {w p : Nat} : rowsI w 0 p (b.drop p) = if p < b.length then .error (6, p) else .ok [] := by
  by_cases c : p < b.length
  · rw [if_pos c, List.drop_eq_getElem_cons c, rowsI]
  · rw [if_neg c, List.drop_eq_nil_iff.mpr (by omega), rowsI]
end Pm
namespace Wk
open PySem PySem.Spec PyProof.Rows L2
/-! ### the text: the i-th statement of the top -/
def topS (i : Nat) : Stmt := PySem.Challenge.pw_paintsheets_s02_size.main.body.getD i (.Pass ⟨0, 0, 0, 0⟩)
abbrev sSide : Stmt := topS 14
theorem scSide : FnScope ["number"] ["number"] (defScope sSide) := ⟨rfl, rfl, rfl, by decide +kernel, rfl, by decide +kernel, by decide +kernel⟩
/-! ### small words -/
theorem same_upd {H : Hp} {p : Addr} {o : HO} (h : H p = none) : Same H (upd H p o) := fun b x e => by
  rw [upd_ne (ne_of_none e h)]
  exact e
theorem line_le {n m : Nat} (h : n ≤ m) (hm : m ≤ 16777216 := by decide) : n ≤ sizeLine := by
  rw [sizeLine_eq]
  omega
theorem line_lt {n m : Nat} (h : n ≤ m) (hm : m < 16777216 := by decide) : n < sizeLine := by
  rw [sizeLine_eq]
  omega
theorem int_at {ns : List Int} {i : Nat} {y : V} (h : (ns.map V.int)[i]? = some y) : ∃ z, ns[i]? = some z ∧ y = .int z := by
  rw [List.getElem?_map] at h
  cases e : ns[i]? with
  | none =>
    rw [e] at h
    cases h
  | some z =>
    rw [e] at h
    exact ⟨z, rfl, (Option.some.inj h).symm⟩
theorem at_int {ns : List Int} {i : Nat} {z : Int} (h : ns[i]? = some z) : (ns.map V.int)[i]? = some (.int z) := by
  rw [List.getElem?_map, h]
  rfl
theorem take_more {α : Type} {l : List α} {i : Nat} {x : α} (h : l[i]? = some x) : l.take (i + 1) = l.take i ++ [x] := by
  rw [List.take_add_one, h]
  rfl
theorem some_eq {l : List Int} {i : Nat} {z : Int} (h : l[i]? = some z) : l.getD i 0 = z := by
  rw [List.getD_eq_getElem?_getD, h]
  rfl
theorem eq_int {i j : Int} : decide (V.int i = V.int j) = decide (i = j) := by
  by_cases c : i = j
  · subst c
    simp
  · rw [decide_eq_false c, decide_eq_false (fun q => c (V.int.inj q))]
section
variable {P : Program} {w : World} {K : PySem.W.Frag} {mg : Str → Option Value} {base : Heap}
/-! ### is_side -/
def spSide : Sp := fun vs H Q _ => ∃ n : Int, vs = [.int n] ∧ Q (.bl (Pm.side n)) H
theorem ok_side {f : Addr} {fd : FuncData} {t : Tok} (F : Fun K "is_side" "is_side" sSide f fd) (mM : mg "MOST_SIDE" = some (.int 256 t)) : FnOk P w K mg base CX0 1 f fd ["number"] spSide := by
  refine F.ok scSide (fun vs H Q E h => ?_) (fun cdv A outer s H vs Q E hr h => ?_)
  · obtain ⟨n, rfl, _⟩ := h
    rfl
  · obtain ⟨n, rfl, q⟩ := h
    refine ⟨_, pss_one (ps_ret (pe_and (pe_cmpR op_le pe_int (pv 0) (nomark _)) (pe_one (pe_cmpR op_le (pv 0) (pe_glob (v := .int 256) (by rfl) mM ⟨_, rfl⟩) (nomark _))))), ?_⟩
    refine ⟨_, rfl, _, _, rfl, rfl, _, rfl, ite2 (fun c => ?_) (fun c => ?_)⟩
    · refine ⟨_, rfl, _, _, rfl, rfl, ?_⟩
      have e : Pm.side n = decide (n ≤ 256) := by
        unfold Pm.side
        rw [c, Bool.true_and]
      rw [e] at q
      exact q
    · have e : Pm.side n = false := by
        unfold Pm.side
        rw [Bool.eq_false_iff.mpr c, Bool.false_and]
      rw [e] at q
      exact q
end
end Wk
namespace Wk
open PySem PySem.Spec PyProof.Rows L2
theorem getD_at {l : List Int} {i : Nat} (h : i < l.length) : l[i]? = some (l.getD i 0) := by
  rw [List.getD_eq_getElem?_getD, List.getElem?_eq_getElem h]
  rfl
theorem step_take {l : List Int} {i : Nat} {y : Int} (h : l[i]? = some y) : (l.take i).map V.int ++ [V.int y] = (l.take (i + 1)).map V.int := by
  rw [take_more h, List.map_append]
  rfl
theorem step_takeB {l : List Bool} {i : Nat} {y : Bool} (h : l[i]? = some y) : (l.take i).map V.bl ++ [V.bl y] = (l.take (i + 1)).map V.bl := by
  rw [take_more h, List.map_append]
  rfl
/-- a list D made behind H grows: what was tracked in H stands -/
theorem same_grow {H H' : Hp} {D : Addr} {o : HO} (s : Same H H') (n : H D = none) : Same H (upd H' D o) := fun b x e => by
  rw [upd_ne (ne_of_none e n)]
  exact s b x e
theorem take_len {l : List Int} {i m : Nat} (h : l.length ≤ m) : ((l.take i).map V.int).length ≤ m := by
  rw [List.length_map, List.length_take]
  omega
theorem lt_len {l : List Int} {i : Nat} {z : Int} (h : l[i]? = some z) : i < l.length := (List.getElem?_eq_some_iff.mp h).1
theorem yes_of {σ : L2.St} {H : Hp} {A B : Hp → Prop} (h : A H) : tYes σ H (fun b H3 => if b = true then A H3 else B H3) := by
  show (if true = true then A H else B H)
  rw [if_pos rfl]
  exact h
end Wk
namespace Wk
open PySem PySem.Spec PyProof.Rows L2
abbrev sFI : Stmt := inClass (topS 13) 0
theorem scFI : FnScope ["self", "kind", "place"] ["self", "kind", "place"] (defScope sFI) := ⟨rfl, rfl, rfl, by decide +kernel, rfl, by decide +kernel, by decide +kernel⟩
abbrev sNa : Stmt := topS 15
theorem scNa : FnScope ["row", "at"] ["row", "at"] (defScope sNa) := ⟨rfl, rfl, rfl, by decide +kernel, rfl, by decide +kernel, by decide +kernel⟩
abbrev sSI : Stmt := inClass (topS 16) 0
theorem scSI : FnScope ["self", "wide", "high", "points"] ["self", "wide", "high", "points"] (defScope sSI) := ⟨rfl, rfl, rfl, by decide +kernel, rfl, by decide +kernel, by decide +kernel⟩
abbrev sHd : Stmt := topS 17
theorem scHd : FnScope ["row", "wide", "high"] ["row"] (defScope sHd) := ⟨rfl, rfl, rfl, by decide +kernel, rfl, by decide +kernel, by decide +kernel⟩
abbrev sRI : Stmt := inClass (topS 18) 0
theorem scRI : FnScope ["self", "row"] ["self", "row"] (defScope sRI) := ⟨rfl, rfl, rfl, by decide +kernel, rfl, by decide +kernel, by decide +kernel⟩
abbrev sTr : Stmt := inClass (topS 18) 1
theorem scTr : FnScope ["self", "left", "before", "many", "paint"] ["self", "left", "before"] (defScope sTr) := ⟨rfl, rfl, rfl, by decide +kernel, rfl, by decide +kernel, by decide +kernel⟩
abbrev sTw : Stmt := inClass (topS 18) 2
theorem scTw : FnScope ["self", "wide", "found", "before"] ["self", "wide"] (defScope sTw) := ⟨rfl, rfl, rfl, by decide +kernel, rfl, by decide +kernel, by decide +kernel⟩
abbrev sRs : Stmt := topS 19
theorem scRs : FnScope ["row", "wide", "high", "reader", "points", "k"] ["row"] (defScope sRs) := ⟨rfl, rfl, rfl, by decide +kernel, rfl, by decide +kernel, by decide +kernel⟩
/-! ### words -/
/-- a constant of the module -/
def IsC (mg : Str → Option Value) (x : Str) (n : Int) : Prop := ∃ t, mg x = some (.int n t)
theorem pe_ci {X : Cx} {x : Str} {n : Int} {pos : Pos} (hg : Gl X x) (hm : IsC X.mg x n) (hd : (x == ("__debug__" : Str)) = false := by decide) : PE X (.Name x pos) (tC (.int n)) := by
  obtain ⟨t, h⟩ := hm
  exact pe_glob hg h ⟨_, rfl⟩ hd
theorem lk_here {k : Str} {v : V} {r : List (Str × V)} : List.lookup k ((k, v) :: r) = some v := by
  have e : (k == k) = true := beq_self_eq_true k
  simp only [List.lookup, e]
theorem lk_past {k g : Str} {v : V} {r : List (Str × V)} (h : (k == g) = false) : List.lookup k ((g, v) :: r) = List.lookup k r := by
  simp only [List.lookup, h]
theorem put_here {f : Str} {v x : V} {r : List (Str × V)} : putF f v ((f, x) :: r) = (f, v) :: r := if_pos rfl
theorem put_past {f g : Str} {v x : V} {r : List (Str × V)} (h : ¬ g = f) : putF f v ((g, x) :: r) = (g, x) :: putF f v r := if_neg h
/-- the fields of a reader -/
def rF (a : Addr) (p : Nat) : List (Str × V) := [("row", .ref a), ("at", .int (p : Int))]
theorem rF_row (a : Addr) (p : Nat) : (rF a p).lookup ("row" : Str) = some (.ref a) := lk_here
theorem rF_at (a : Addr) (p : Nat) : (rF a p).lookup ("at" : Str) = some (.int (p : Int)) := (lk_past (by decide +kernel)).trans lk_here
theorem rF_run (a : Addr) (p : Nat) : (rF a p).lookup ("take_run" : Str) = none := (lk_past (by decide +kernel)).trans ((lk_past (by decide +kernel)).trans rfl)
theorem rF_trow (a : Addr) (p : Nat) : (rF a p).lookup ("take_row" : Str) = none := (lk_past (by decide +kernel)).trans ((lk_past (by decide +kernel)).trans rfl)
theorem rF_put (a : Addr) (p q : Nat) : putF "at" (.int (q : Int)) (rF a p) = rF a q := (put_past (by decide +kernel)).trans (congrArg _ put_here)
theorem rF_new (a : Addr) : putF "at" (.int 8) (putF "row" (.ref a) []) = rF a 8 := (put_past (by decide +kernel)).trans rfl
def RdAt (C : Addr) (H : Hp) (s a : Addr) (p : Nat) : Prop := ∃ dx, H s = some (.ins C dx (rF a p))
/-- the fields of a sheet -/
def sF (w h : Int) (p : Addr) : List (Str × V) := [("wide", .int w), ("high", .int h), ("points", .ref p)]
theorem sF_wide (w h : Int) (p : Addr) : (sF w h p).lookup ("wide" : Str) = some (.int w) := lk_here
theorem sF_high (w h : Int) (p : Addr) : (sF w h p).lookup ("high" : Str) = some (.int h) := (lk_past (by decide +kernel)).trans lk_here
theorem sF_pts (w h : Int) (p : Addr) : (sF w h p).lookup ("points" : Str) = some (.ref p) := (lk_past (by decide +kernel)).trans ((lk_past (by decide +kernel)).trans lk_here)
theorem sF_new1 (w h : Int) : putF "high" (.int h) (putF "wide" (.int w) []) = ([(("wide" : Str), V.int w), (("high" : Str), V.int h)] : List (Str × V)) := (put_past (by decide +kernel)).trans rfl
theorem sF_new (w h : Int) (p : Addr) : putF "points" (.ref p) (putF "high" (.int h) (putF "wide" (.int w) [])) = sF w h p := by
  rw [sF_new1]
  exact (put_past (by decide +kernel)).trans (congrArg _ ((put_past (by decide +kernel)).trans rfl))
def ShAt (C : Addr) (H : Hp) (s : Addr) (w h : Int) (p : Addr) : Prop := ∃ dx, H s = some (.ins C dx (sF w h p))
/-- a Fault's fields, the last one first -/
def eFs (e : Nat × Nat) : List (Str × V) := [("place", .int (e.2 : Int)), ("kind", .int (e.1 : Int))]
theorem eFs_kind (e : Nat × Nat) : (eFs e).lookup ("kind" : Str) = some (.int (e.1 : Int)) := (lk_past (by decide +kernel)).trans lk_here
theorem eFs_place (e : Nat × Nat) : (eFs e).lookup ("place" : Str) = some (.int (e.2 : Int)) := lk_here
/-- the way out by a Fault of this kind and place -/
def XErr (C : Addr) (E : XK) (e : Nat × Nat) : Prop := ∀ (d : Addr) (H' : Hp), H' d = some (.xd (eFs e)) → E (.ref C) (some d) H'
/-- == of two lists of whole numbers -/
theorem eqv_ints : ∀ a b : List Int, PyData.eqvAll (a.map PyData.int) (b.map PyData.int) = decide (a = b)
  | [], [] => by simp [PyData.eqvAll]
  | [], _ :: _ => by simp [PyData.eqvAll]
  | _ :: _, [] => by simp [PyData.eqvAll]
  | x :: r, y :: s => by
    rw [List.map_cons, List.map_cons, PyData.eqvAll, eqv_ints r s, PyData.eqv]
    by_cases c : x = y
    · subst c
      simp
    · simp [c]
theorem dp_ints {K : PySem.W.Frag} {H : Hp} : ∀ ns : List Int, DpAll K H (ns.map V.int) (ns.map PyData.int)
  | [] => .nil
  | n :: r => .cons (.int n) (dp_ints r)
theorem in_lay : ∀ ps : List Int, PyData.canLayAll0 (ps.map PyData.int) = true
  | [] => rfl
  | p :: r => by
    show (PyData.canLay0 (.int p) && PyData.canLayAll0 (r.map PyData.int)) = true
    rw [in_lay r]
    rfl
theorem in_depth : ∀ ps : List Int, PyData.depthAll (ps.map PyData.int) ≤ 8
  | [] => by simp [PyData.depthAll]
  | p :: r => by
    have := in_depth r
    simp only [List.map_cons, PyData.depthAll, PyData.depth]
    omega
theorem in_shaped (ps : List Int) : SeqAt.shaped (.list (ps.map PyData.int)) = true := by
  have h1 := in_depth ps
  have h2 : PyData.depth (.list (ps.map PyData.int)) ≤ 64 := by
    simp only [PyData.depth]
    omega
  show (PyData.canLay0 (.list (ps.map PyData.int)) && decide (PyData.depth (.list (ps.map PyData.int)) ≤ 64)) = true
  rw [Bool.and_eq_true]
  exact ⟨by simp only [PyData.canLay0]; exact in_lay ps, decide_eq_true h2⟩
theorem cut4 (l : List Int) : cutV (l.map V.int) none (some ((4 : Nat) : Int)) = (l.take 4).map V.int := by
  unfold cutV
  rw [HT.sIx_none, show HT.sIx (l.map V.int).length (l.map V.int).length (some ((4 : Nat) : Int)) = min 4 (l.map V.int).length from HT.sIx_nat _ _ _, List.drop_zero, List.map_take, Nat.sub_zero, List.length_map]
  by_cases c : 4 ≤ l.length
  · rw [Nat.min_eq_left c]
  · rw [Nat.min_eq_right (by omega), List.take_of_length_le (by rw [List.length_map]; exact Nat.le_refl _), List.take_of_length_le (by rw [List.length_map]; omega)]
/-- what the top has written of the classes and the constants -/
structure Txt (K : PySem.W.Frag) (mg : Str → Option Value) (CF CR CS fFI aM : Addr) : Prop where
  ox : OexC K CF
  iC : PySem.W.findIn K (.ref CF) "__init__" = some (some (.ref fFI))
  tI : PySem.W.typeIn K (.ref fFI) = some (.type "function")
  gF : mg "Fault" = some (.ref CF)
  eF : PySem.W.exmOne K (.ref CF) (.ref CF) = some true
  nK : PySem.W.findIn K (.ref CF) "kind" = some none
  nP : PySem.W.findIn K (.ref CF) "place" = some none
  vV : PySem.W.findCls K (.type "ValueError") (.type "type") "__init__" = some (.val (.builtin "ValueError.__init__"))
  mV : mg "ValueError" = none
  xf : XfC K CF
  gR : mg "RunReader" = some (.ref CR)
  clR : Cls K CR
  nRow : NoAttr K CR "row"
  nAt : NoAttr K CR "at"
  gS : mg "Sheet" = some (.ref CS)
  clS : Cls K CS
  nW : NoAttr K CS "wide"
  nH : NoAttr K CS "high"
  nPt : NoAttr K CS "points"
  gM : mg "MARK" = some (.ref aM)
  sM : ∀ H : Hp, SqL K H aM (Pm.markI.map V.int)
  mL : mg "len" = none
  mR : mg "range" = none
  kHead : IsC mg "HEAD" 8
  kByte : IsC mg "BYTE" 256
  kWide : IsC mg "WIDE_AT" 4
  kHigh : IsC mg "HIGH_AT" 6
  kMark : IsC mg "NO_MARK" 1
  kSide : IsC mg "NO_SIDE" 2
  kShort : IsC mg "TOO_SHORT" 3
  kMany : IsC mg "TOO_MANY" 4
  kSame : IsC mg "SAME_PAINT" 5
  kLong : IsC mg "TOO_LONG_runs" 6
section
variable {P : Program} {w : World} {K : PySem.W.Frag} {mg : Str → Option Value} {base : Heap} {CF CR CS fFI aM : Addr}
/-! ### Fault.__init__ -/
def spFI (C : Addr) : Sp := fun vs H Q _ => ∃ (a : Addr) (k p : Nat), vs = [.ref a, .int (k : Int), .int (p : Int)] ∧ H a = some (exo a C none) ∧
  ∀ d, H d = none → d ≠ a → Q .non (upd (upd (upd H d (exd d [("kind", .int (k : Int))])) a (exo a C (some d))) d (exd d (eFs (k, p))))
theorem ok_FI {f : Addr} {fd : FuncData} (F : Fun K "__init__" "Fault.__init__" sFI f fd) (T : Txt K mg CF CR CS fFI aM) : FnOk P w K mg base CX0 1 f fd ["self", "kind", "place"] (spFI CF) := by
  refine F.ok scFI (fun vs H Q E h => ?_) (fun cdv A outer s H vs Q E hr h => ?_)
  · obtain ⟨a, k, p, rfl, _⟩ := h
    rfl
  · obtain ⟨a, k, p, rfl, ha, q⟩ := h
    refine ⟨_, pss_cons (ps_expr (pe_veinit (by rfl) T.mV T.vV (pa_cons (pv 0) (pa_cons pe_str pa_nil)))) (pss_cons (ps_ost (pv 0) (pv 1)) (pss_one (ps_ost (pv 0) (pv 2)))), ?_⟩
    refine ⟨_, rfl, a, CF, _, rfl, by simp, T.ox, ha, ?_⟩
    refine ⟨_, rfl, _, rfl, a, CF, rfl, T.ox, T.nK, .inl ⟨ha, fun d nd ne => ?_⟩⟩
    exact ⟨_, rfl, _, rfl, a, CF, rfl, T.ox, T.nP, .inr ⟨d, _, upd_same, (upd_ne ne).trans upd_same, by simp, q d nd ne⟩⟩
/-- raise Fault(k, p) -/
theorem fault_out {H1 : Hp} {E : XK} {k p : Nat} (x : XErr CF E (k, p)) : ∀ a, H1 a = none → spFI CF (.ref a :: ([.int (k : Int), .int (p : Int)] ++ [])) (upd H1 a (exo a CF none))
    (fun v H2 => v = .non ∧ ∃ (d : Addr) (fs : List (Str × V)), H2 a = some (exo a CF (some d)) ∧ H2 d = some (exd d fs) ∧ H1 d = none ∧ E (.ref CF) (some d) (upd (del H2 a) d (.xd fs))) (fun _ _ _ => False) := fun a na =>
  ⟨a, k, p, rfl, upd_same, fun d nd ne => ⟨rfl, d, eFs (k, p), (upd_ne (Ne.symm ne)).trans upd_same, upd_same, (upd_ne ne).symm.trans nd, x d _ upd_same⟩⟩
/-! ### number_at -/
def spNa (K : PySem.W.Frag) : Sp := fun vs H Q _ => ∃ (a : Addr) (b : List Int) (i : Nat), vs = [.ref a, .int (i : Int)] ∧ SqL K H a (b.map V.int) ∧ i + 1 < b.length ∧ Q (.int (Pm.numI b i)) H
theorem ok_Na {f : Addr} {fd : FuncData} (F : Fun K "number_at" "number_at" sNa f fd) (T : Txt K mg CF CR CS fFI aM) : FnOk P w K mg base CX0 1 f fd ["row", "at"] (spNa K) := by
  refine F.ok scNa (fun vs H Q E h => ?_) (fun cdv A outer s H vs Q E hr h => ?_)
  · obtain ⟨a, b, i, rfl, _⟩ := h
    rfl
  · obtain ⟨a, b, i, rfl, hA, hi, q⟩ := h
    refine ⟨_, pss_one (ps_ret (pe_op op_add (pe_ix ix_list (pv 0) (pv 1) (fun _ _ => rfl)) (pe_op op_mul (pe_ci (by rfl) T.kByte) (pe_ix ix_list (pv 0) (pe_op op_add (pv 1) pe_int) (fun _ _ => rfl))))), ?_⟩
    exact ⟨_, rfl, _, rfl, a, _, _, _, rfl, rfl, hA, at_of (j := i) rfl (at_int (getD_at (by omega))), _, rfl, _, rfl, _, 1, rfl, rfl, a, _, _, _, rfl, rfl, hA, at_of (j := i + 1) rfl (at_int (getD_at hi)), 256, _, rfl, rfl, .inl ⟨by decide, by decide⟩, _, _, rfl, rfl, q⟩
/-! ### Sheet.__init__, RunReader.__init__ -/
def spSI (C : Addr) : Sp := fun vs H Q _ => ∃ (s dx : Addr) (wd hg : Int) (p : Addr), vs = [.ref s, .int wd, .int hg, .ref p] ∧ H s = some (.ins C dx []) ∧ ∀ H' : Hp, ShAt C H' s wd hg p → (∀ b o, H b = some o → b ≠ s → H' b = some o) → Q .non H'
theorem ok_SI {f : Addr} {fd : FuncData} (F : Fun K "__init__" "Sheet.__init__" sSI f fd) (T : Txt K mg CF CR CS fFI aM) : FnOk P w K mg base CX0 1 f fd ["self", "wide", "high", "points"] (spSI CS) := by
  refine F.ok scSI (fun vs H Q E h => ?_) (fun cdv A outer s H vs Q E hr h => ?_)
  · obtain ⟨s, dx, wd, hg, p, rfl, _⟩ := h
    rfl
  · obtain ⟨s, dx, wd, hg, p, rfl, hs, q⟩ := h
    refine ⟨_, pss_cons (ps_fld (pv 0) (pv 1) rfl) (pss_cons (ps_fld (pv 0) (pv 2) rfl) (pss_one (ps_fld (pv 0) (pv 3) rfl))), ?_⟩
    refine ⟨_, rfl, _, rfl, s, CS, dx, [], rfl, hs, T.clS, T.nW, (by show 0 < 1000; decide), ?_⟩
    refine ⟨_, rfl, _, rfl, s, CS, dx, _, rfl, upd_same, T.clS, T.nH, (by show 1 < 1000; decide), ?_⟩
    refine ⟨_, rfl, _, rfl, s, CS, dx, _, rfl, upd_same, T.clS, T.nPt, (by show 2 < 1000; decide), ?_⟩
    exact q _ ⟨dx, Eq.trans upd_same (congrArg (fun q => some (HO.ins CS dx q)) (sF_new wd hg p))⟩ fun b o e hb => by
      rw [upd_ne hb, upd_ne hb, upd_ne hb]
      exact e
def spRI (C : Addr) : Sp := fun vs H Q _ => ∃ (s dx a : Addr), vs = [.ref s, .ref a] ∧ H s = some (.ins C dx []) ∧ ∀ H' : Hp, RdAt C H' s a 8 → (∀ b o, H b = some o → b ≠ s → H' b = some o) → Q .non H'
theorem ok_RI {f : Addr} {fd : FuncData} (F : Fun K "__init__" "RunReader.__init__" sRI f fd) (T : Txt K mg CF CR CS fFI aM) : FnOk P w K mg base CX0 1 f fd ["self", "row"] (spRI CR) := by
  refine F.ok scRI (fun vs H Q E h => ?_) (fun cdv A outer s H vs Q E hr h => ?_)
  · obtain ⟨s, dx, a, rfl, _⟩ := h
    rfl
  · obtain ⟨s, dx, a, rfl, hs, q⟩ := h
    refine ⟨_, pss_cons (ps_fld (pv 0) (pv 1) rfl) (pss_one (ps_fld (pv 0) (pe_ci (by rfl) T.kHead) rfl)), ?_⟩
    refine ⟨_, rfl, _, rfl, s, CR, dx, [], rfl, hs, T.clR, T.nRow, (by show 0 < 1000; decide), ?_⟩
    refine ⟨_, rfl, s, CR, dx, _, rfl, upd_same, T.clR, T.nAt, (by show 1 < 1000; decide), ?_⟩
    exact q _ ⟨dx, Eq.trans upd_same (congrArg (fun q => some (HO.ins CR dx q)) (rF_new a))⟩ fun b o e hb => by
      rw [upd_ne hb, upd_ne hb]
      exact e
/-! ### head_of -/
def headR (b : List Int) : Pm.Res Unit :=
  if b.length < 8 ∨ b.take 4 ≠ Pm.markI then .error (1, 0) else if Pm.side (Pm.numI b 4) = false then .error (2, 4) else if Pm.side (Pm.numI b 6) = false then .error (2, 6) else .ok ()
def spHd (K : PySem.W.Frag) (C : Addr) : Sp := fun vs H Q E => ∃ (a : Addr) (b : List Int), vs = [.ref a] ∧ SqL K H a (b.map V.int) ∧ (∀ e, headR b = .error e → XErr C E e) ∧
  (headR b = .ok () → ∀ (H' : Hp) (t : Addr), Same H H' → H' t = some (.tup [.int (Pm.numI b 4), .int (Pm.numI b 6)]) → Q (.ref t) H')
theorem ok_Hd {f fN fI : Addr} {fd fdF fdN fdI : FuncData} (F : Fun K "head_of" "head_of" sHd f fd) (T : Txt K mg CF CR CS fFI aM) (GF : FnOk P w K mg base CX0 1 fFI fdF ["self", "kind", "place"] (spFI CF)) (bF : Binds K fdF ["self", "kind", "place"] [])
    (GN : FnOk P w K mg base CX0 1 fN fdN ["row", "at"] (spNa K)) (gN : mg "number_at" = some (.ref fN)) (kN : PySem.W.keepIn K (.ref fN) = true) (bN : Binds K fdN ["row", "at"] [])
    (GI : FnOk P w K mg base CX0 1 fI fdI ["number"] spSide) (gI : mg "is_side" = some (.ref fI)) (kI : PySem.W.keepIn K (.ref fI) = true) (bI : Binds K fdI ["number"] []) : FnOk P w K mg base (L2.CX P w) 3 f fd ["row"] (spHd K CF) := by
  refine F.okX scHd (fun vs H Q E h => ?_) (fun cdv A outer s H vs Q E hr h => ?_)
  · obtain ⟨a, b, rfl, _⟩ := h
    rfl
  · obtain ⟨a, b, rfl, hA, xe, q⟩ := h
    have hr1 : Room 1 _ := hr.mono (by decide)
    refine ⟨_, pss_cons (ps_if (PW.pt (pw_or (pt_cmpR op_lt (pe_callB call_len_seq (by rfl) T.mL PySem.boot_len (pa_cons (pv 0) pa_nil)) (pe_ci (by rfl) T.kHead) (nomark _))
          (pw_or1 (pt_cmpR (op_neD hr.units) (pe_slice sl_list (pv 0) po_none (po_some (pe_callB call_len_seq (by rfl) T.mL PySem.boot_len (pa_cons (pe_glob (v := .ref aM) (by rfl) T.gM rfl) pa_nil)))) (pe_glob (v := .ref aM) (by rfl) T.gM rfl) (nomark _)))))
        (pss_one (ps_raise rfl (takes_of rfl rfl rfl rfl) (pmk_oex T.ox T.iC T.tI GF hr bF .nil pass0 (by rfl) T.gF (pa_cons (pe_ci (by rfl) T.kMark) (pa_cons pe_int pa_nil))))) pss_nil)
      (pss_cons (ps_set (i := 1) scHd.nd rfl (.inl rfl) (pe_call GN hr1 (by rfl) gN kN bN .nil pass0 (pa_cons (pv 0) (pa_cons (pe_ci (by rfl) T.kWide) pa_nil))))
      (pss_cons (ps_set (i := 2) scHd.nd rfl (.inl rfl) (pe_call GN hr1 (by rfl) gN kN bN .nil pass0 (pa_cons (pv 0) (pa_cons (pe_ci (by rfl) T.kHigh) pa_nil))))
      (pss_cons (ps_if (pt_not (pt_val (pe_call GI hr1 (by rfl) gI kI bI .nil pass0 (pa_cons (pv 1) pa_nil))))
        (pss_one (ps_raise rfl (takes_of rfl rfl rfl rfl) (pmk_oex T.ox T.iC T.tI GF hr bF .nil pass0 (by rfl) T.gF (pa_cons (pe_ci (by rfl) T.kSide) (pa_cons (pe_ci (by rfl) T.kWide) pa_nil))))) pss_nil)
      (pss_cons (ps_if (pt_not (pt_val (pe_call GI hr1 (by rfl) gI kI bI .nil pass0 (pa_cons (pv 2) pa_nil))))
        (pss_one (ps_raise rfl (takes_of rfl rfl rfl rfl) (pmk_oex T.ox T.iC T.tI GF hr bF .nil pass0 (by rfl) T.gF (pa_cons (pe_ci (by rfl) T.kSide) (pa_cons (pe_ci (by rfl) T.kHigh) pa_nil))))) pss_nil)
      (pss_one (ps_ret (pe_tup (pa_cons (pv 1) (pa_cons (pv 2) pa_nil))))))))), ?_⟩
    have e0 : headR b = if b.length < 8 ∨ b.take 4 ≠ Pm.markI then .error (1, 0) else if Pm.side (Pm.numI b 4) = false then .error (2, 4) else if Pm.side (Pm.numI b 6) = false then .error (2, 6) else .ok () := rfl
    have m1 : (b.length < 8 ∨ b.take 4 ≠ Pm.markI) → XErr CF E (1, 0) := fun c => xe _ (by rw [e0, if_pos c])
    refine ⟨_, rfl, a, _, rfl, .inl hA, _, _, rfl, rfl, _, rfl, ite2 (fun c1 => ?_) (fun c1 => ?_)⟩
    · rw [decide_eq_true_iff, List.length_map] at c1
      exact iteT ⟨by simp, fault_out (k := 1) (p := 0) (m1 (.inl (by omega)))⟩
    · rw [decide_eq_true_iff, List.length_map] at c1
      refine ⟨_, rfl, aM, _, rfl, .inl (T.sM _), _, rfl, a, _, rfl, hA, fun c nc => ⟨.list ((b.take 4).map PyData.int), .list (Pm.markI.map PyData.int), ?_, .lst (T.sM _) (dp_ints _), in_shaped _, in_shaped _, _, rfl, ?_⟩⟩
      · refine .lst (SqL.of (upd_same.trans ?_)) (dp_ints _)
        exact congrArg (fun q => some (HO.lst q)) (cut4 b)
      · have sm1 : Same H (upd H c (.lst (cutV (b.map V.int) none (some ((Pm.markI.map V.int).length : Nat))))) := same_upd nc
        generalize upd H c (.lst (cutV (b.map V.int) none (some ((Pm.markI.map V.int).length : Nat)))) = H1 at sm1
        have ev : PyData.eqv (.list ((b.take 4).map PyData.int)) (.list (Pm.markI.map PyData.int)) = decide (b.take 4 = Pm.markI) := by
          rw [PyData.eqv]
          exact eqv_ints _ _
        rw [ev]
        refine ite2 (fun c2 => ?_) (fun c2 => ?_)
        · rw [Bool.not_eq_true', decide_eq_false_iff_not] at c2
          exact ⟨by simp, fault_out (k := 1) (p := 0) (m1 (.inr c2))⟩
        · rw [Bool.not_eq_true', Bool.not_eq_false, decide_eq_true_iff] at c2
          rw [if_neg (by intro z; rcases z with z | z; omega; exact z c2)] at e0
          refine ⟨_, rfl, a, b, 4, rfl, sm1.seq hA, by omega, _, rfl, a, b, 6, rfl, sm1.seq hA, by omega, _, rfl, _, rfl, _, rfl, ite2 (fun c3 => ?_) (fun c3 => ?_)⟩
          · rw [Bool.not_eq_true'] at c3
            rw [if_pos c3] at e0
            exact ⟨by simp, fault_out (k := 2) (p := 4) (xe _ e0)⟩
          · rw [Bool.not_eq_true', Bool.not_eq_false] at c3
            rw [if_neg (by rw [c3]; decide)] at e0
            refine ⟨_, rfl, _, rfl, _, rfl, ite2 (fun c4 => ?_) (fun c4 => ?_)⟩
            · rw [Bool.not_eq_true'] at c4
              rw [if_pos c4] at e0
              exact ⟨by simp, fault_out (k := 2) (p := 6) (xe _ e0)⟩
            · rw [Bool.not_eq_true', Bool.not_eq_false] at c4
              rw [if_neg (by rw [c4]; decide)] at e0
              exact ⟨_, rfl, _, rfl, line_le (m := 2) (by simp), fun t nt => q e0 _ t (sm1.trans (same_upd nt)) upd_same⟩
end
end Wk
namespace Wk
open PySem PySem.Spec PyProof.Rows L2
def oV : Option Int → V
  | none => .non
  | some z => .int z
theorem oV_scal (z : Int) (o : Option Int) : scal (.int z) (oV o) = true := by
  cases o <;> rfl
theorem oV_eq {z : Int} {o : Option Int} : V.int z = oV o ↔ o = some z := by
  cases o with
  | none => exact ⟨fun h => (nomatch h), fun h => (nomatch h)⟩
  | some y => exact ⟨fun h => by rw [V.int.inj h], fun h => by rw [Option.some.inj h]; rfl⟩
theorem flat_rep (n : Nat) (v : V) : (List.replicate n [v]).flatten = List.replicate n v := by
  induction n with
  | zero => rfl
  | succ n ih =>
    rw [List.replicate_succ, List.flatten_cons, ih]
    rfl
theorem atI_end {l : List Int} {z : Int} (h : l.getLast? = some z) : atI (l.map V.int) (-1) = some (.int z) := by
  obtain ⟨hne, e⟩ : ∃ hne : l ≠ [], l.getLast hne = z := by
    cases l with
    | nil => cases h
    | cons y r => exact ⟨List.cons_ne_nil _ _, by rw [List.getLast?_eq_getLast (List.cons_ne_nil y r)] at h; exact Option.some.inj h⟩
  have e2 : l = l.dropLast ++ [z] := by
    rw [← e, List.dropLast_concat_getLast]
  rw [e2, List.map_append]
  exact atI_last _ _
/-- a list stands where all but an instance stands -/
theorem seq_but {K : PySem.W.Frag} {H H' : Hp} {s a C dx : Addr} {fs : List (Str × V)} {xs : List V} (hs : H s = some (.ins C dx fs)) (k : ∀ b o, H b = some o → b ≠ s → H' b = some o) (h : SqL K H a xs) : SqL K H' a xs := by
  have ne : ∀ {b : Addr} {u : HO}, H b = some u → (∀ C dx fs, u ≠ .ins C dx fs) → b ≠ s := fun e n z => by
    rw [z, hs] at e
    exact n _ _ _ (Option.some.inj e).symm
  rcases h with (h | ⟨o, h⟩) | h
  · exact .inl (.inl (k _ _ h (ne h fun _ _ _ z => nomatch z)))
  · exact .inl (.inr ⟨o, k _ _ h (ne h fun _ _ _ z => nomatch z)⟩)
  · exact .inr h
theorem head_err {b : List Int} {e : Nat × Nat} (h : headR b = .error e) : Pm.judgeI b = .error e := by
  unfold headR at h
  unfold Pm.judgeI
  by_cases c1 : b.length < 8 ∨ b.take 4 ≠ Pm.markI
  · rw [if_pos c1] at h ⊢
    cases h
    rfl
  · rw [if_neg c1] at h ⊢
    by_cases c2 : Pm.side (Pm.numI b 4) = false
    · rw [if_pos c2] at h ⊢
      cases h
      rfl
    · rw [if_neg c2] at h ⊢
      by_cases c3 : Pm.side (Pm.numI b 6) = false
      · rw [if_pos c3] at h ⊢
        cases h
        rfl
      · rw [if_neg c3] at h
        cases h
theorem head_ok {b : List Int} (h : headR b = .ok ()) : 8 ≤ b.length ∧ (1 ≤ Pm.numI b 4 ∧ Pm.numI b 4 ≤ 256) ∧ (1 ≤ Pm.numI b 6 ∧ Pm.numI b 6 ≤ 256) ∧
    Pm.judgeI b = Pm.mapOk (fun l => (Pm.numI b 4, Pm.numI b 6, l)) (Pm.rowsI (Pm.numI b 4).toNat (Pm.numI b 6).toNat 8 (b.drop 8)) := by
  unfold headR at h
  unfold Pm.judgeI
  by_cases c1 : b.length < 8 ∨ b.take 4 ≠ Pm.markI
  · rw [if_pos c1] at h
    cases h
  · rw [if_neg c1] at h ⊢
    by_cases c2 : Pm.side (Pm.numI b 4) = false
    · rw [if_pos c2] at h
      cases h
    · rw [if_neg c2] at h ⊢
      by_cases c3 : Pm.side (Pm.numI b 6) = false
      · rw [if_pos c3] at h
        cases h
      · rw [if_neg c3]
        rw [Bool.not_eq_false] at c2 c3
        refine ⟨by omega, Pm.side_iff.mp c2, Pm.side_iff.mp c3, ?_⟩
        cases Pm.rowsI (Pm.numI b 4).toNat (Pm.numI b 6).toNat 8 (b.drop 8) <;> rfl
section
variable {P : Program} {w : World} {K : PySem.W.Frag} {mg : Str → Option Value} {base : Heap} {CF CR CS fFI aM : Addr}
/-! ### RunReader.take_run -/
def spTr (K : PySem.W.Frag) (C CF : Addr) : Sp := fun vs H Q E => ∃ (s a : Addr) (b : List Int) (p left : Nat) (last : Option Int), vs = [.ref s, .int (left : Int), oV last] ∧ RdAt C H s a p ∧ SqL K H a (b.map V.int) ∧ Pm.Byt b ∧ left ≤ 256 ∧
  (∀ e, Pm.runR b p left last = .error e → XErr CF E e) ∧
  (∀ l, Pm.runR b p left last = .ok l → ∀ (H' : Hp) (q : Addr), H q = none → H' q = some (.lst (l.map V.int)) → RdAt C H' s a (p + 2) → (∀ b o, H b = some o → b ≠ s → H' b = some o) → Q (.ref q) H')
theorem ok_Tr {f : Addr} {fd fdF : FuncData} (F : Fun K "take_run" "RunReader.take_run" sTr f fd) (T : Txt K mg CF CR CS fFI aM) (GF : FnOk P w K mg base CX0 1 fFI fdF ["self", "kind", "place"] (spFI CF)) (bF : Binds K fdF ["self", "kind", "place"] []) :
    FnOk P w K mg base (L2.CX P w) 3 f fd ["self", "left", "before"] (spTr K CR CF) := by
  refine F.okX scTr (fun vs H Q E h => ?_) (fun cdv A outer s H vs Q E hr h => ?_)
  · obtain ⟨s, a, b, p, left, last, rfl, _⟩ := h
    rfl
  · obtain ⟨s, a, b, p, left, last, rfl, ⟨dx, hs⟩, hA, hby, hleft, xe, q⟩ := h
    refine ⟨_, pss_cons (ps_if (pt_cmpR op_gt (pe_op op_add (pe_fld (pv 0) rfl) pe_int) (pe_callB call_len_seq (by rfl) T.mL PySem.boot_len (pa_cons (pe_fld (pv 0) rfl) pa_nil)) (nomark _))
        (pss_one (ps_raise rfl (takes_of rfl rfl rfl rfl) (pmk_oex T.ox T.iC T.tI GF hr bF .nil pass0 (by rfl) T.gF (pa_cons (pe_ci (by rfl) T.kShort) (pa_cons (pe_callB call_len_seq (by rfl) T.mL PySem.boot_len (pa_cons (pe_fld (pv 0) rfl) pa_nil)) pa_nil))))) pss_nil)
      (pss_cons (ps_set (i := 3) scTr.nd rfl (.inl rfl) (pe_op op_add (pe_ix ix_list (pe_fld (pv 0) rfl) (pe_fld (pv 0) rfl) (fun _ _ => rfl)) pe_int))
      (pss_cons (ps_set (i := 4) scTr.nd rfl (.inl rfl) (pe_ix ix_list (pe_fld (pv 0) rfl) (pe_op op_add (pe_fld (pv 0) rfl) pe_int) (fun _ _ => rfl)))
      (pss_cons (ps_if (pt_cmpR op_gt (pv 3) (pv 1) (nomark _))
        (pss_one (ps_raise rfl (takes_of rfl rfl rfl rfl) (pmk_oex T.ox T.iC T.tI GF hr bF .nil pass0 (by rfl) T.gF (pa_cons (pe_ci (by rfl) T.kMany) (pa_cons (pe_fld (pv 0) rfl) pa_nil))))) pss_nil)
      (pss_cons (ps_if (pt_cmpR op_eq (pv 4) (pv 2) (nomark _))
        (pss_one (ps_raise rfl (takes_of rfl rfl rfl rfl) (pmk_oex T.ox T.iC T.tI GF hr bF .nil pass0 (by rfl) T.gF (pa_cons (pe_ci (by rfl) T.kSame) (pa_cons (pe_fld (pv 0) rfl) pa_nil))))) pss_nil)
      (pss_cons (ps_fld (pv 0) (pe_op op_add (pe_fld (pv 0) rfl) pe_int) rfl)
      (pss_one (ps_ret (pe_op op_rep (pe_lst (pa_cons (pv 4) pa_nil)) (pv 3))))))))), ?_⟩
    have e0 : Pm.runR b p left last = if b.length < p + 2 then .error (3, b.length) else if (left : Int) < b.getD p 0 + 1 then .error (4, p) else if last = some (b.getD (p + 1) 0) then .error (5, p) else .ok (List.replicate (b.getD p 0 + 1).toNat (b.getD (p + 1) 0)) := rfl
    refine ⟨_, rfl, s, CR, dx, _, _, rfl, hs, T.clR, T.nAt, rF_at _ _, _, 2, rfl, rfl, _, rfl, s, CR, dx, _, _, rfl, hs, T.clR, T.nRow, rF_row _ _, a, _, rfl, .inl hA, _, _, rfl, rfl, _, rfl, ite2 (fun c1 => ?_) (fun c1 => ?_)⟩
    · rw [decide_eq_true_iff, List.length_map] at c1
      rw [if_pos (by omega)] at e0
      refine ⟨_, rfl, s, CR, dx, _, _, rfl, hs, T.clR, T.nRow, rF_row _ _, a, _, rfl, .inl hA, ?_⟩
      rw [List.length_map]
      exact ⟨by simp, fault_out (k := 3) (p := b.length) (xe _ e0)⟩
    · rw [decide_eq_true_iff, List.length_map] at c1
      rw [if_neg (by omega)] at e0
      refine ⟨_, rfl, s, CR, dx, _, _, rfl, hs, T.clR, T.nRow, rF_row _ _, _, rfl, s, CR, dx, _, _, rfl, hs, T.clR, T.nAt, rF_at _ _, a, _, _, _, rfl, rfl, hA, at_of (j := p) rfl (at_int (getD_at (by omega))), _, 1, rfl, rfl, ?_⟩
      refine ⟨_, rfl, s, CR, dx, _, _, rfl, hs, T.clR, T.nRow, rF_row _ _, _, rfl, s, CR, dx, _, _, rfl, hs, T.clR, T.nAt, rF_at _ _, _, 1, rfl, rfl, a, _, _, _, rfl, rfl, hA, at_of (j := p + 1) rfl (at_int (getD_at (by omega))), ?_⟩
      have hn := hby.getD p
      generalize b.getD p 0 = n at e0 hn
      generalize b.getD (p + 1) 0 = z at e0
      refine ⟨_, rfl, _, rfl, _, _, rfl, rfl, _, rfl, ite2 (fun c2 => ?_) (fun c2 => ?_)⟩
      · rw [decide_eq_true_iff] at c2
        rw [if_pos c2] at e0
        exact ⟨_, rfl, s, CR, dx, _, _, rfl, hs, T.clR, T.nAt, rF_at _ _, by simp, fault_out (k := 4) (p := p) (xe _ e0)⟩
      · rw [decide_eq_true_iff] at c2
        rw [if_neg c2] at e0
        refine ⟨_, rfl, _, rfl, oV_scal _ _, _, rfl, ite2 (fun c3 => ?_) (fun c3 => ?_)⟩
        · rw [decide_eq_true_iff, oV_eq] at c3
          rw [if_pos c3] at e0
          exact ⟨_, rfl, s, CR, dx, _, _, rfl, hs, T.clR, T.nAt, rF_at _ _, by simp, fault_out (k := 5) (p := p) (xe _ e0)⟩
        · rw [decide_eq_true_iff, oV_eq] at c3
          rw [if_neg c3] at e0
          refine ⟨_, rfl, s, CR, dx, _, _, rfl, hs, T.clR, T.nAt, rF_at _ _, _, 2, rfl, rfl, _, rfl, s, CR, dx, _, rfl, hs, T.clR, T.nAt, (by show 2 < 1000; decide), ?_⟩
          refine ⟨_, rfl, line_le (m := 1) (by simp), fun l nl => ⟨_, rfl, l, n + 1, _, rfl, rfl, upd_same, by omega, by omega, line_le (m := 1000) (by rw [List.length_singleton]; omega), fun r nr => ?_⟩⟩
          have nls : l ≠ s := fun e => by
            rw [e, upd_same] at nl
            cases nl
          have nrs : r ≠ s := fun e => by
            rw [e, upd_ne (Ne.symm nls), upd_same] at nr
            cases nr
          have nrl : r ≠ l := fun e => by
            rw [e, upd_same] at nr
            cases nr
          refine q _ e0 _ r ?_ ?_ ?_ ?_
          · rw [upd_ne nrl, upd_ne nrs] at nr
            exact nr
          · rw [upd_same, flat_rep, List.map_replicate]
          · refine ⟨dx, ?_⟩
            rw [upd_ne (Ne.symm nrs), upd_ne (Ne.symm nls), upd_same]
            exact congrArg (fun q => some (HO.ins CR dx q)) (rF_put a p (p + 2))
          · intro c o e hc
            have e2 : (upd H s (.ins CR dx (putF "at" (.int ((p : Int) + 2)) (rF a p)))) c = some o := (upd_ne hc).trans e
            have e3 : (upd (upd H s (.ins CR dx (putF "at" (.int ((p : Int) + 2)) (rF a p)))) l (.lst [.int z])) c = some o := (upd_ne (ne_of_none e2 nl)).trans e2
            exact (upd_ne (ne_of_none e3 nr)).trans e3
/-! ### RunReader.take_row -/
def spTw (K : PySem.W.Frag) (C CF : Addr) : Sp := fun vs H Q E => ∃ (s a : Addr) (b : List Int) (p wd : Nat), vs = [.ref s, .int (wd : Int)] ∧ RdAt C H s a p ∧ SqL K H a (b.map V.int) ∧ Pm.Byt b ∧ p ≤ b.length ∧ wd ≤ 256 ∧
  (∀ e, Pm.rowI wd none p (b.drop p) = .error e → XErr CF E e) ∧
  (∀ x, Pm.rowI wd none p (b.drop p) = .ok x → x.2.1 ≤ b.length → ∀ (H' : Hp) (q : Addr), H q = none → H' q = some (.lst (x.1.map V.int)) → RdAt C H' s a x.2.1 → (∀ b o, H b = some o → b ≠ s → H' b = some o) → Q (.ref q) H')
theorem ok_Tw {f fT : Addr} {fd fdT : FuncData} (F : Fun K "take_row" "RunReader.take_row" sTw f fd) (T : Txt K mg CF CR CS fFI aM) (GT : FnOk P w K mg base (L2.CX P w) 3 fT fdT ["self", "left", "before"] (spTr K CR CF)) (mT : Meth K CR "take_run" fT) (bT : Binds K fdT ["self", "left", "before"] []) :
    FnOk P w K mg base (L2.CX P w) 4 f fd ["self", "wide"] (spTw K CR CF) := by
  refine F.okX scTw (fun vs H Q E h => ?_) (fun cdv A outer s H vs Q E hr h => ?_)
  · obtain ⟨s, a, b, p, wd, rfl, _⟩ := h
    rfl
  · obtain ⟨s, a, b, p, wd, rfl, hrd, hA, hby, hp, hwd, xe, q⟩ := h
    refine ⟨_, pss_cons (ps_set (i := 2) scTw.nd rfl (.inl rfl) (pe_lst pa_nil)) (pss_cons (ps_set (i := 3) scTw.nd rfl (.inl rfl) pe_non)
      (pss_cons (ps_while (passes_of rfl) (pt_cmpR op_lt (pe_callB call_len_seq (by rfl) T.mL PySem.boot_len (pa_cons (pv 2) pa_nil)) (pv 1) (nomark _))
        (pss_cons (ps_expr (pe_bm PySem.F.plainAttrs_list PySem.F.slot_list_extend PySem.F.type_list_extend mt_extend (pv 2) (pa_cons
            (pe_meth (pv 0) T.clR mT GT hr bT .nil (passes_call (W := fun cls d _ H => E cls d H) (takes_of rfl rfl rfl rfl) (fun _ _ _ _ h => h)) (pa_cons (pe_op op_sub (pv 1) (pe_callB call_len_seq (by rfl) T.mL PySem.boot_len (pa_cons (pv 2) pa_nil))) (pa_cons (pv 3) pa_nil))) pa_nil)))
          (pss_one (ps_set (i := 3) scTw.nd rfl (.inl rfl) (pe_ix ix_list (pv 2) (pe_un un_neg pe_int) (fun _ _ => rfl))))))
      (pss_one (ps_ret (pv 2))))), ?_⟩
    obtain ⟨dx0, hs0⟩ := hrd
    refine ⟨Nat.zero_le _, fun o no => ?_⟩
    have nos : o ≠ s := fun e => by
      rw [e, hs0] at no
      cases no
    refine ⟨fun m σ H' => ∃ (fo : List Int) (last : Option Int) (j : Nat), σ = [some (.ref s), some (.int (wd : Int)), some (.ref o), some (oV last)] ∧ m = wd - fo.length ∧ fo.length ≤ wd ∧ j ≤ b.length ∧ RdAt CR H' s a j ∧ H' o = some (.lst (fo.map V.int)) ∧
        (∀ b o, H b = some o → b ≠ s → H' b = some o) ∧ Pm.rowI wd none p (b.drop p) = Pm.prep fo (Pm.rowI (wd - fo.length) last j (b.drop j)),
      ⟨wd, [], none, p, rfl, rfl, Nat.zero_le _, hp, ⟨dx0, (upd_ne (Ne.symm nos)).trans hs0⟩, upd_same, fun c u e _ => (upd_ne (ne_of_none e no)).trans e, ?_⟩, ?_⟩
    · show _ = Pm.prep [] (Pm.rowI wd none p (b.drop p))
      cases Pm.rowI wd none p (b.drop p) <;> rfl
    · rintro m σ H1 ⟨fo, last, j, rfl, rfl, hfo, hj, ⟨dx, hs⟩, ho, kp, er⟩
      refine ⟨_, rfl, o, _, rfl, .inl (SqL.of ho), _, rfl, _, _, rfl, rfl, _, rfl, ite2 (fun c1 => ?_) (fun c1 => ?_)⟩
      · rw [decide_eq_true_iff, List.length_map] at c1
        have hl : fo.length < wd := by omega
        obtain ⟨r1, r2⟩ := Pm.run_row hby (last := last) hj (show 0 < wd - fo.length by omega)
        have ew : (wd : Int) - (((fo.map V.int).length : Nat) : Int) = ((wd - fo.length : Nat) : Int) := by
          rw [List.length_map]
          omega
        refine ⟨_, fun σ' H' hh => hh, ?_⟩
        refine ⟨_, rfl, .inl ⟨rfl, _, SqL.of ho⟩, _, rfl, s, dx, _, rfl, hs, rF_run _ _, _, rfl, _, rfl, o, _, rfl, .inl (SqL.of ho), _, _, rfl, rfl, _, rfl, s, a, b, j, wd - fo.length, last, congrArg (fun i => [V.ref s, V.int i, oV last]) ew, ⟨dx, hs⟩, seq_but hs0 kp hA, hby, by omega, fun e he => ?_, fun l hl2 H2 r nr hr2 rd2 kp2 => ?_⟩
        · refine xe e ?_
          rw [er, r1 e he]
          rfl
        · obtain ⟨g1, g2, g3, g4, g5, g6⟩ := r2 l hl2
          have ho2 := kp2 o _ ho nos
          refine ⟨o, r, _, _, rfl, rfl, ho2, hr2, line_le (m := 1000) (by rw [List.length_map, List.length_map]; omega), ?_⟩
          have hoe : (upd H2 o (.lst (fo.map V.int ++ l.map V.int))) o = some (.lst ((fo ++ l).map V.int)) := by
            rw [upd_same, List.map_append]
          have gl : (fo ++ l).getLast? = some (b.getD (j + 1) 0) := by
            rw [List.getLast?_append, g5]
            rfl
          refine ⟨_, rfl, 1, rfl, o, _, -1, _, rfl, rfl, SqL.of hoe, atI_end gl, wd - (fo ++ l).length, by rw [List.length_append]; omega, fo ++ l, some (b.getD (j + 1) 0), j + 2, rfl, rfl, by rw [List.length_append]; omega, g1, ?_, hoe, fun c u e hc => ?_, ?_⟩
          · obtain ⟨dx2, hs2⟩ := rd2
            exact ⟨dx2, (upd_ne (Ne.symm nos)).trans hs2⟩
          · refine (upd_ne (ne_of_none e no)).trans (kp2 _ _ (kp _ _ e hc) hc)
          · rw [er, g6, Pm.prep_prep, List.length_append, Nat.sub_sub]
      · rw [decide_eq_true_iff, List.length_map] at c1
        have hl : wd - fo.length = 0 := by omega
        have ex : Pm.rowI wd none p (b.drop p) = .ok (fo ++ [], j, b.drop j) := by
          rw [er, hl, Pm.rowI]
          rfl
        rw [List.append_nil] at ex
        exact ⟨_, rfl, q _ ex hj H1 o no ho ⟨dx, hs⟩ kp⟩
/-! ### read_sheet -/
def spRs (K : PySem.W.Frag) (CS CF : Addr) : Sp := fun vs H Q E => ∃ (a : Addr) (b : List Int), vs = [.ref a] ∧ SqL K H a (b.map V.int) ∧ Pm.Byt b ∧ (∀ e, Pm.judgeI b = .error e → XErr CF E e) ∧
  (∀ x, Pm.judgeI b = .ok x → x.2.2.length ≤ 100000 → ∀ (H' : Hp) (s p : Addr), ShAt CS H' s x.1 x.2.1 p → H' p = some (.lst (x.2.2.map V.int)) → Q (.ref s) H')
theorem ok_Rs {f fH fT fR fS : Addr} {fd fdF fdH fdT fdR fdS : FuncData} (F : Fun K "read_sheet" "read_sheet" sRs f fd) (T : Txt K mg CF CR CS fFI aM) (GF : FnOk P w K mg base CX0 1 fFI fdF ["self", "kind", "place"] (spFI CF)) (bF : Binds K fdF ["self", "kind", "place"] [])
    (GH : FnOk P w K mg base (L2.CX P w) 3 fH fdH ["row"] (spHd K CF)) (gH : mg "head_of" = some (.ref fH)) (kH : PySem.W.keepIn K (.ref fH) = true) (bH : Binds K fdH ["row"] [])
    (GT : FnOk P w K mg base (L2.CX P w) 4 fT fdT ["self", "wide"] (spTw K CR CF)) (mT : Meth K CR "take_row" fT) (bT : Binds K fdT ["self", "wide"] [])
    (MR : Mk K CR fR) (GR : FnOk P w K mg base CX0 1 fR fdR ["self", "row"] (spRI CR)) (bR : Binds K fdR ["self", "row"] [])
    (MS : Mk K CS fS) (GS : FnOk P w K mg base CX0 1 fS fdS ["self", "wide", "high", "points"] (spSI CS)) (bS : Binds K fdS ["self", "wide", "high", "points"] []) :
    FnOk P w K mg base (L2.CX P w) 5 f fd ["row"] (spRs K CS CF) := by
  refine F.okX scRs (fun vs H Q E h => ?_) (fun cdv A outer s H vs Q E hr h => ?_)
  · obtain ⟨a, b, rfl, _⟩ := h
    rfl
  · obtain ⟨a, b, rfl, hA, hby, xe, q⟩ := h
    have hr2 : Room 2 _ := hr.mono (by decide)
    have hr3 : Room 3 _ := hr.mono (by decide)
    refine ⟨_, pss_cons (ps_asg (pe_call GH hr3 (by rfl) gH kH bH .nil (passes_call (W := fun cls d _ H => E cls d H) (takes_of rfl rfl rfl rfl) (fun _ _ _ _ h => h)) (pa_cons (pv 0) pa_nil))
        (pg_tup rfl (pgs_cons (pg_name (i := 1) scRs.nd rfl (.inl rfl)) (pgs_cons (pg_name (i := 2) scRs.nd rfl (.inl rfl)) pgs_nil))))
      (pss_cons (ps_set (i := 3) scRs.nd rfl (.inl rfl) (pe_make (E := E0) MR GR hr2 (by rfl) T.gR bR .nil pass0 (pa_cons (pv 0) pa_nil)))
      (pss_cons (ps_set (i := 4) scRs.nd rfl (.inl rfl) (pe_lst pa_nil))
      (pss_cons (ps_for (passes_of rfl) rfl (pi_range1 (by rfl) T.mR (pa_cons (pv 2) pa_nil)) (pg_name (i := 5) scRs.nd rfl (.inl rfl))
        (pss_one (ps_expr (pe_bm PySem.F.plainAttrs_list PySem.F.slot_list_extend PySem.F.type_list_extend mt_extend (pv 4) (pa_cons
            (pe_meth (pv 3) T.clR mT GT hr bT .nil (passes_call (W := fun cls d _ H => E cls d H) (takes_of rfl rfl rfl rfl) (fun _ _ _ _ h => h)) (pa_cons (pv 1) pa_nil)) pa_nil)))))
      (pss_cons (ps_if (pt_cmpR op_lt (pe_fld (pv 3) rfl) (pe_callB call_len_seq (by rfl) T.mL PySem.boot_len (pa_cons (pv 0) pa_nil)) (nomark _))
        (pss_one (ps_raise rfl (takes_of rfl rfl rfl rfl) (pmk_oex T.ox T.iC T.tI GF hr2 bF .nil pass0 (by rfl) T.gF (pa_cons (pe_ci (by rfl) T.kLong) (pa_cons (pe_fld (pv 3) rfl) pa_nil))))) pss_nil)
      (pss_one (ps_ret (pe_make (E := E0) MS GS hr2 (by rfl) T.gS bS .nil pass0 (pa_cons (pv 1) (pa_cons (pv 2) (pa_cons (pv 4) pa_nil)))))))))), ?_⟩
    refine ⟨_, rfl, a, b, rfl, hA, fun e he => xe e (head_err he), fun hk H1 t sm1 ht => ?_⟩
    obtain ⟨h8, hw, hh, ej⟩ := head_ok hk
    generalize Pm.numI b 4 = wd at hw ej ht
    generalize Pm.numI b 6 = hg at hh ej ht
    refine ⟨t, _, rfl, SqT.of ht, rfl, _, _, rfl, _, _, rfl, rfl, ?_⟩
    refine ⟨_, rfl, fun x dx nx nd ne => ⟨x, dx, a, rfl, upd_same, fun H2 rd2 kp2 => ⟨rfl, ?_⟩⟩⟩
    have sm2 : Same H H2 := sm1.trans (Same.made nx nd kp2)
    have nxH : H x = none := sm1.free nx
    refine ⟨Nat.zero_le _, fun o no => ?_⟩
    have nox : o ≠ x := fun e => by
      obtain ⟨dx2, h2⟩ := rd2
      rw [e, h2] at no
      cases no
    have noH : H o = none := sm2.free no
    obtain ⟨dx2, hx2⟩ := rd2
    have ew : ((wd.toNat : Nat) : Int) = wd := Int.toNat_of_nonneg (by omega)
    refine ⟨_, rfl, hg, rfl, by omega, by omega, for_range (lo := 0) (n := hg.toNat)
      (fun i σ H' => ∃ (y5 : Option V) (fo : List Int) (j : Nat), σ = [some (.ref a), some (.int wd), some (.int hg), some (.ref x), some (.ref o), y5] ∧ j ≤ b.length ∧ RdAt CR H' x a j ∧ H' o = some (.lst (fo.map V.int)) ∧ fo.length = i * wd.toNat ∧ Same H H' ∧
        Pm.rowsI wd.toNat hg.toNat 8 (b.drop 8) = Pm.prepL fo (Pm.rowsI wd.toNat (hg.toNat - i) j (b.drop j)))
      ⟨none, [], 8, rfl, h8, ⟨dx2, (upd_ne (Ne.symm nox)).trans hx2⟩, upd_same, by simp, sm2.trans (same_upd no), ?_⟩ ?_ ?_⟩
    · show _ = Pm.prepL [] (Pm.rowsI wd.toNat hg.toNat 8 (b.drop 8))
      cases Pm.rowsI wd.toNat hg.toNat 8 (b.drop 8) <;> rfl
    · rintro i σ H3 hi ⟨y5, fo, j, rfl, hj, rd3, ho3, hfo, sm3, er⟩
      have bT : i * wd.toNat ≤ 256 * 256 := Nat.mul_le_mul (by omega) (by omega)
      have es : hg.toNat - i = (hg.toNat - (i + 1)) + 1 := by omega
      rw [es] at er
      obtain ⟨dx3, hx3⟩ := id rd3
      refine ⟨_, rfl, .inl ⟨rfl, _, SqL.of ho3⟩, _, rfl, x, dx3, _, rfl, hx3, rF_trow _ _, _, rfl, x, a, b, j, wd.toNat, by rw [ew]; rfl, rd3, sm3.seq hA, hby, hj, by omega, fun e he => ?_, fun y hy hyl H4 r nr hr4 rd4 kp4 => ?_⟩
      · refine xe e ?_
        rw [ej, er, Pm.rows_err he]
        rfl
      · obtain ⟨yl, _, _⟩ := Pm.row_at hy
        have ho4 := kp4 o _ ho3 nox
        have sm4 : Same H H4 := fun c u e => kp4 _ _ (sm3 _ _ e) (ne_of_none e nxH)
        refine ⟨o, r, _, _, rfl, rfl, ho4, hr4, line_le (m := 100000) (by rw [List.length_map, List.length_map]; omega), _, fo ++ y.1, y.2.1, rfl, hyl, ?_, ?_, ?_, same_grow sm4 noH, ?_⟩
        · obtain ⟨dx4, hx4⟩ := rd4
          exact ⟨dx4, (upd_ne (Ne.symm nox)).trans hx4⟩
        · rw [upd_same, List.map_append]
        · rw [List.length_append, hfo, yl, Nat.succ_mul]
        · rw [er, Pm.rows_step hy, Pm.prepL_prepL]
    · rintro σ H3 ⟨y5, fo, j, rfl, hj, ⟨dx3, hx3⟩, ho3, hfo, sm3, er⟩
      rw [Nat.sub_self, Pm.rows_end] at er
      have bT : hg.toNat * wd.toNat ≤ 256 * 256 := Nat.mul_le_mul (by omega) (by omega)
      refine ⟨_, rfl, x, CR, dx3, _, _, rfl, hx3, T.clR, T.nAt, rF_at _ _, _, rfl, a, _, rfl, .inl (sm3.seq hA), _, _, rfl, rfl, _, rfl, ite2 (fun c1 => ?_) (fun c1 => ?_)⟩
      · rw [decide_eq_true_iff, List.length_map] at c1
        rw [if_pos (by omega)] at er
        refine ⟨_, rfl, x, CR, dx3, _, _, rfl, hx3, T.clR, T.nAt, rF_at _ _, by simp, fault_out (k := 6) (p := j) (xe _ ?_)⟩
        rw [ej, er]
        rfl
      · rw [decide_eq_true_iff, List.length_map] at c1
        rw [if_neg (by omega)] at er
        have ex : Pm.judgeI b = .ok (wd, hg, fo ++ []) := by
          rw [ej, er]
          rfl
        rw [List.append_nil] at ex
        refine ⟨_, rfl, _, rfl, _, rfl, fun y dy ny nd2 ne2 => ⟨y, dy, wd, hg, o, rfl, upd_same, fun H4 sh4 kp4 => ⟨rfl, q _ ex (by show fo.length ≤ 100000; omega) H4 y o sh4 ((Same.made ny nd2 kp4) _ _ ho3)⟩⟩⟩
end
end Wk
namespace Wk
open PySem PySem.Spec PyProof.Rows L2
abbrev sIn : Stmt := topS 24
theorem scIn : FnScope ["b", "found"] ["b"] (defScope sIn) := ⟨rfl, rfl, rfl, by decide +kernel, rfl, by decide +kernel, by decide +kernel⟩
section
variable {P : Program} {w : World} {K : PySem.W.Frag} {mg : Str → Option Value} {base : Heap} {CF CR CS fFI aM : Addr}
/-! ### sheet_in -/
def spIn (K : PySem.W.Frag) (CS : Addr) : Sp := fun vs H Q _ => ∃ (a : Addr) (b : List Int), vs = [.ref a] ∧ SqL K H a (b.map V.int) ∧ Pm.Byt b ∧ (∀ e, Pm.judgeI b = .error e → ∀ H' : Hp, Q .non H') ∧
  (∀ x, Pm.judgeI b = .ok x → x.2.2.length ≤ 100000 → ∀ (H' : Hp) (s p : Addr), ShAt CS H' s x.1 x.2.1 p → H' p = some (.lst (x.2.2.map V.int)) → Q (.ref s) H')
theorem ok_In {f fR : Addr} {fd fdR : FuncData} (F : Fun K "sheet_in" "sheet_in" sIn f fd) (T : Txt K mg CF CR CS fFI aM) (GR : FnOk P w K mg base (L2.CX P w) 5 fR fdR ["row"] (spRs K CS CF)) (gR : mg "read_sheet" = some (.ref fR)) (kR : PySem.W.keepIn K (.ref fR) = true) (bR : Binds K fdR ["row"] []) :
    FnOk P w K mg base CX0 6 f fd ["b"] (spIn K CS) := by
  refine F.ok scIn (fun vs H Q E h => ?_) (fun cdv A outer s H vs Q E hr h => ?_)
  · obtain ⟨a, b, rfl, _⟩ := h
    rfl
  · obtain ⟨a, b, rfl, hA, hby, qe, qo⟩ := h
    refine ⟨_, pss_cons (ps_try_only (tb := fun W => tAsg (tCallS (spRs K CS CF) (WE W) (tCons (tVar 0) tNil)) (gName 1)) (ts := fun _ _ _ => tAsg (tC .non) (gName 1)) (Wout := fun _ _ _ _ => False) rfl rfl ⟨rfl, by decide, Or.inl T.gF⟩ takes0
        (fun W pn xe tk _ => pss_one (ps_set (i := 1) scIn.nd rfl (Or.inl rfl) (by exact (pe_callS GR hr rfl gR kR bR (fun σ => passAt tk σ) (by exact (pa_cons (pv 0) pa_nil))))))
        (fun _ _ _ _ _ _ _ => pss_one (ps_set (i := 1) scIn.nd rfl (Or.inl rfl) pe_non)))
      (pss_one (ps_ret (pv 1))), ?_⟩
    exact ⟨_, rfl, a, b, rfl, hA, hby, fun e he d H1 hd => ⟨true, T.eF, fun _ a0 _ => ⟨_, rfl, qe e he H1⟩, fun z => Bool.noConfusion z⟩, fun x hx hl H1 s p sh hp => ⟨_, rfl, qo x hx hl H1 s p sh hp⟩⟩
end
end Wk
namespace Wk
open PySem PySem.Spec PyProof.Rows L2
abbrev sAns : Stmt := topS 25
theorem scAns : FnScope ["b", "sheet"] ["b"] (defScope sAns) := ⟨rfl, rfl, rfl, by decide +kernel, rfl, by decide +kernel, by decide +kernel⟩
section
variable {P : Program} {w : World} {K : PySem.W.Frag} {mg : Str → Option Value} {base : Heap} {CF CR CS fFI aM : Addr}
def spAns (K : PySem.W.Frag) : Sp := fun vs H Q _ => ∃ (a : Addr) (b : List Int), vs = [.ref a] ∧ SqL K H a (b.map V.int) ∧ b.length ≤ 6144 ∧ Pm.Byt b ∧ ∀ (H' : Hp) (q : Addr), H' q = some (.lst ((Pm.size b).map V.int)) → Q (.ref q) H'
theorem ok_ans {f fI : Addr} {fd fdI : FuncData} (F : Fun K "size" "size" sAns f fd) (T : Txt K mg CF CR CS fFI aM) (GI : FnOk P w K mg base CX0 6 fI fdI ["b"] (spIn K CS)) (gI : mg "sheet_in" = some (.ref fI)) (kI : PySem.W.keepIn K (.ref fI) = true) (bI : Binds K fdI ["b"] [])
    (mT : IsC mg "TOO_LONG_sheets" (-2)) (mN : IsC mg "NO_SHEET" (-6)) (mM : IsC mg "MOST_BYTES" 131080) : FnOk P w K mg base CX0 7 f fd ["b"] (spAns K) := by
  refine F.ok scAns (fun vs H Q E h => ?_) (fun cdv A outer s H vs Q E hr h => ?_)
  · obtain ⟨a, b, rfl, _⟩ := h
    rfl
  · obtain ⟨a, b, rfl, hA, hl, hby, q⟩ := h
    refine ⟨_, pss_cons (ps_if (pt_cmpR op_gt (pe_callB call_len_seq (by rfl) T.mL PySem.boot_len (pa_cons (pv 0) pa_nil)) (pe_ci (by rfl) mM) (nomark _)) (pss_one (ps_ret (pe_lst (pa_cons (pe_ci (by rfl) mT) pa_nil)))) pss_nil)
      (pss_cons (ps_set (i := 1) scAns.nd rfl (.inl rfl) (pe_call (E := E0) GI hr (by rfl) gI kI bI .nil pass0 (pa_cons (pv 0) pa_nil)))
      (pss_cons (ps_if (pt_cmpR op_isN (pv 1) pe_non (nomark _)) (pss_one (ps_ret (pe_lst (pa_cons (pe_ci (by rfl) mN) pa_nil)))) pss_nil)
      (pss_one (ps_ret (pe_lst (pa_cons (pe_fld (pv 1) rfl) (pa_cons (pe_fld (pv 1) rfl) pa_nil))))))), ?_⟩
    refine ⟨_, rfl, a, _, rfl, .inl hA, _, _, rfl, rfl, _, rfl, ite2 (fun c1 => ?_) (fun c1 => ?_)⟩
    · rw [decide_eq_true_iff, List.length_map] at c1
      exact absurd c1 (by omega)
    · refine ⟨_, rfl, a, b, rfl, hA, hby, fun e he H1 => ⟨_, rfl, rfl, _, rfl, iteT ⟨line_le (m := 1) (by simp), fun r nr => q _ r ?_⟩⟩, fun x hx _ H1 s p sh hp => ?_⟩
      · rw [upd_same]
        unfold Pm.size
        rw [he]
        rfl
      · obtain ⟨dx, hs⟩ := sh
        refine ⟨_, rfl, rfl, _, rfl, iteF ⟨_, rfl, s, CS, dx, _, _, rfl, hs, T.clS, T.nW, sF_wide _ _ _, _, rfl, s, CS, dx, _, _, rfl, hs, T.clS, T.nH, sF_high _ _ _, line_le (m := 2) (by simp), fun r nr => q _ r ?_⟩⟩
        rw [upd_same]
        unfold Pm.size
        rw [hx]
        rfl
end
end Wk
namespace Wk
open PySem PySem.Spec PyProof.Rows L2
/-- an error of the class at S is what «except S» names -/
theorem exm_self {K : PySem.W.Frag} {S : Addr} (h1 : PySem.W.subIn K (.ref S) (.type "BaseException") = some true) (h2 : PySem.W.isClsIn K S = true) (h3 : PySem.W.typeIn K (.ref S) = some (.type "type")) (h4 : PySem.W.subIn K (.ref S) (.ref S) = some true) :
    PySem.W.exmOne K (.ref S) (.ref S) = some true := by
  have e1 : (PySem.W.subIn K (.ref S) (.type "BaseException") == some true) = true := by rw [h1] <;> rfl
  have e2 : ((PySem.W.clsIn K S).isSome && PySem.W.typeIn K (.ref S) == some (.type "type")) = true := by
    have h2' : (PySem.W.clsIn K S).isSome = true := h2
    rw [h2', h3] <;> rfl
  show (if (PySem.W.subIn K (.ref S) (.type "BaseException") == some true) = true then (if ((PySem.W.clsIn K S).isSome && PySem.W.typeIn K (.ref S) == some (.type "type")) = true then PySem.W.subIn K (.ref S) (.ref S) else none) else none) = some true
  rw [if_pos e1, if_pos e2]
  exact h4
theorem all_mk {P : Program} {w : World} {K : PySem.W.Frag} {h : Heap} {mg : Str → Option Value} {fa CF CR CS aM f1 f2 f3 f4 f5 f6 f7 f8 f9 f10 f11 : Addr} (X : K.In h) (G : h.Ns mainGlobals mg) (hfa : mg "size" = some (.ref fa))
    {nm q : Str} {N : Addr} {bs : List Value} {sn : List Str} {sub : List Value} {ab : Bool} {col : Option Bool} {dd : Option Addr} {m0 m1 m2 m3 m5 : Option Value}
    {od1 an1 od2 an2 od3 an3 od4 an4 od5 an5 od6 an6 od7 an7 od8 an8 od9 an9 od10 an10 od11 an11 : Option Addr} {sl1 sl2 sl3 sl4 sl5 sl6 sl7 sl8 sl9 sl10 sl11 : Array (Option Value)} {oc1 kV1 dc1 pm1 cd1 ct1 oc2 kV2 dc2 pm2 cd2 ct2 oc3 kV3 dc3 pm3 cd3 ct3 oc4 kV4 dc4 pm4 cd4 ct4 oc5 kV5 dc5 pm5 cd5 ct5 oc6 kV6 dc6 pm6 cd6 ct6 oc7 kV7 dc7 pm7 cd7 ct7 oc8 kV8 dc8 pm8 cd8 ct8 oc9 kV9 dc9 pm9 cd9 ct9 oc10 kV10 dc10 pm10 cd10 ct10 oc11 kV11 dc11 pm11 cd11 ct11 : Value} {t0 t1 t2 t3 t4 t5 t6 t7 t8 t9 t10 t11 t12 t13 : Tok}
    {nM : Nat} {slM : Array (Option Value)} {tM0 tM1 tM2 tM3 : Tok}
    (aF : PySem.W.nsIn K mainGlobals "Fault" = some (some (.ref CF)))
    (aR : PySem.W.nsIn K mainGlobals "RunReader" = some (some (.ref CR)))
    (aS : PySem.W.nsIn K mainGlobals "Sheet" = some (some (.ref CS)))
    (xL : K.lookup CF = some (excClassObj nm q CF N bs [.type "ValueError", .type "Exception", .type "BaseException", .type "object"] true sn sub ab col dd m0 m1 m2 m3 m5 "ValueError.__new__"))
    (saF : PySem.W.findIn K (.ref CF) "__setattr__" = some (some (.builtin "object.__setattr__")))
    (gaF : PySem.W.findIn K (.ref CF) "__getattribute__" = some (some (.builtin "BaseException.__getattribute__")))
    (ggF : PySem.W.findIn K (.ref CF) "__getattr__" = some none)
    (nKF : PySem.W.findIn K (.ref CF) "kind" = some none)
    (nPF : PySem.W.findIn K (.ref CF) "place" = some none)
    (kcF : PySem.W.keepIn K (.ref CF) = true)
    (eCF : PySem.W.subIn K (.ref CF) (.type "BaseException") = some true)
    (tCF : PySem.W.typeIn K (.ref CF) = some (.type "type"))
    (hCF : PySem.W.hasDictIn K CF = true)
    (iCF : PySem.W.isClsIn K CF = true)
    (sCF : PySem.W.subIn K (.ref CF) (.ref CF) = some true)
    (vVF : PySem.W.findCls K (.type "ValueError") (.type "type") "__init__" = some (.val (.builtin "ValueError.__init__")))
    (zVF : PySem.W.nsIn K mainGlobals "ValueError" = some none)
    (pgR : PySem.W.plainGet K CR Str.empty = true)
    (hdR : PySem.W.hasDictIn K CR = true)
    (poR : PySem.W.plainOver K CR = true)
    (saR : PySem.W.findIn K (.ref CR) "__setattr__" = some (some (.builtin "object.__setattr__")))
    (mkR : PySem.W.makesIn K CR = true)
    (kcR : PySem.W.keepIn K (.ref CR) = true)
    (n_rowR : PySem.W.findIn K (.ref CR) "row" = some none)
    (n_atR : PySem.W.findIn K (.ref CR) "at" = some none)
    (pgS : PySem.W.plainGet K CS Str.empty = true)
    (hdS : PySem.W.hasDictIn K CS = true)
    (poS : PySem.W.plainOver K CS = true)
    (saS : PySem.W.findIn K (.ref CS) "__setattr__" = some (some (.builtin "object.__setattr__")))
    (mkS : PySem.W.makesIn K CS = true)
    (kcS : PySem.W.keepIn K (.ref CS) = true)
    (n_wideS : PySem.W.findIn K (.ref CS) "wide" = some none)
    (n_highS : PySem.W.findIn K (.ref CS) "high" = some none)
    (n_pointsS : PySem.W.findIn K (.ref CS) "points" = some none)
    (a1 : PySem.W.findIn K (.ref CF) "__init__" = some (some (.ref f1)))
    (i1 : PySem.W.isFn K (.ref f1) = true)
    (l1 : K.lookup f1 = some ⟨oc1, od1, .func (PySem.W.fnOf "__init__" "Fault.__init__" (defArgs sFI) (defBody sFI) (defScope sFI) .none kV1 dc1 pm1 an1 cd1 ct1), sl1⟩)
    (c1 : PySem.W.codeIn K cd1 "Fault.__init__" = true)
    (k1 : PySem.W.keepIn K (.ref f1) = true)
    (a2 : PySem.W.findIn K (.ref CS) "__init__" = some (some (.ref f2)))
    (i2 : PySem.W.isFn K (.ref f2) = true)
    (l2 : K.lookup f2 = some ⟨oc2, od2, .func (PySem.W.fnOf "__init__" "Sheet.__init__" (defArgs sSI) (defBody sSI) (defScope sSI) .none kV2 dc2 pm2 an2 cd2 ct2), sl2⟩)
    (c2 : PySem.W.codeIn K cd2 "Sheet.__init__" = true)
    (k2 : PySem.W.keepIn K (.ref f2) = true)
    (a3 : PySem.W.findIn K (.ref CR) "__init__" = some (some (.ref f3)))
    (i3 : PySem.W.isFn K (.ref f3) = true)
    (l3 : K.lookup f3 = some ⟨oc3, od3, .func (PySem.W.fnOf "__init__" "RunReader.__init__" (defArgs sRI) (defBody sRI) (defScope sRI) .none kV3 dc3 pm3 an3 cd3 ct3), sl3⟩)
    (c3 : PySem.W.codeIn K cd3 "RunReader.__init__" = true)
    (k3 : PySem.W.keepIn K (.ref f3) = true)
    (a4 : PySem.W.findIn K (.ref CR) "take_run" = some (some (.ref f4)))
    (i4 : PySem.W.isFn K (.ref f4) = true)
    (l4 : K.lookup f4 = some ⟨oc4, od4, .func (PySem.W.fnOf "take_run" "RunReader.take_run" (defArgs sTr) (defBody sTr) (defScope sTr) .none kV4 dc4 pm4 an4 cd4 ct4), sl4⟩)
    (c4 : PySem.W.codeIn K cd4 "RunReader.take_run" = true)
    (k4 : PySem.W.keepIn K (.ref f4) = true)
    (a5 : PySem.W.findIn K (.ref CR) "take_row" = some (some (.ref f5)))
    (i5 : PySem.W.isFn K (.ref f5) = true)
    (l5 : K.lookup f5 = some ⟨oc5, od5, .func (PySem.W.fnOf "take_row" "RunReader.take_row" (defArgs sTw) (defBody sTw) (defScope sTw) .none kV5 dc5 pm5 an5 cd5 ct5), sl5⟩)
    (c5 : PySem.W.codeIn K cd5 "RunReader.take_row" = true)
    (k5 : PySem.W.keepIn K (.ref f5) = true)
    (tIF : PySem.W.typeIn K (.ref f1) = some (.type "function"))
    (a6 : PySem.W.nsIn K mainGlobals "is_side" = some (some (.ref f6)))
    (l6 : K.lookup f6 = some ⟨oc6, od6, .func (PySem.W.fnOf "is_side" "is_side" (defArgs sSide) (defBody sSide) (defScope sSide) .none kV6 dc6 pm6 an6 cd6 ct6), sl6⟩)
    (c6 : PySem.W.codeIn K cd6 "is_side" = true)
    (k6 : PySem.W.keepIn K (.ref f6) = true)
    (a7 : PySem.W.nsIn K mainGlobals "number_at" = some (some (.ref f7)))
    (l7 : K.lookup f7 = some ⟨oc7, od7, .func (PySem.W.fnOf "number_at" "number_at" (defArgs sNa) (defBody sNa) (defScope sNa) .none kV7 dc7 pm7 an7 cd7 ct7), sl7⟩)
    (c7 : PySem.W.codeIn K cd7 "number_at" = true)
    (k7 : PySem.W.keepIn K (.ref f7) = true)
    (a8 : PySem.W.nsIn K mainGlobals "head_of" = some (some (.ref f8)))
    (l8 : K.lookup f8 = some ⟨oc8, od8, .func (PySem.W.fnOf "head_of" "head_of" (defArgs sHd) (defBody sHd) (defScope sHd) .none kV8 dc8 pm8 an8 cd8 ct8), sl8⟩)
    (c8 : PySem.W.codeIn K cd8 "head_of" = true)
    (k8 : PySem.W.keepIn K (.ref f8) = true)
    (a9 : PySem.W.nsIn K mainGlobals "read_sheet" = some (some (.ref f9)))
    (l9 : K.lookup f9 = some ⟨oc9, od9, .func (PySem.W.fnOf "read_sheet" "read_sheet" (defArgs sRs) (defBody sRs) (defScope sRs) .none kV9 dc9 pm9 an9 cd9 ct9), sl9⟩)
    (c9 : PySem.W.codeIn K cd9 "read_sheet" = true)
    (k9 : PySem.W.keepIn K (.ref f9) = true)
    (a10 : PySem.W.nsIn K mainGlobals "sheet_in" = some (some (.ref f10)))
    (l10 : K.lookup f10 = some ⟨oc10, od10, .func (PySem.W.fnOf "sheet_in" "sheet_in" (defArgs sIn) (defBody sIn) (defScope sIn) .none kV10 dc10 pm10 an10 cd10 ct10), sl10⟩)
    (c10 : PySem.W.codeIn K cd10 "sheet_in" = true)
    (k10 : PySem.W.keepIn K (.ref f10) = true)
    (a11 : PySem.W.nsIn K mainGlobals "size" = some (some (.ref f11)))
    (l11 : K.lookup f11 = some ⟨oc11, od11, .func (PySem.W.fnOf "size" "size" (defArgs sAns) (defBody sAns) (defScope sAns) .none kV11 dc11 pm11 an11 cd11 ct11), sl11⟩)
    (c11 : PySem.W.codeIn K cd11 "size" = true)
    (k11 : PySem.W.keepIn K (.ref f11) = true)
    (u0 : PySem.W.nsIn K mainGlobals "MOST_SIDE" = some (some (.int 256 t0)))
    (u1 : PySem.W.nsIn K mainGlobals "HEAD" = some (some (.int 8 t1)))
    (u2 : PySem.W.nsIn K mainGlobals "BYTE" = some (some (.int 256 t2)))
    (u3 : PySem.W.nsIn K mainGlobals "WIDE_AT" = some (some (.int 4 t3)))
    (u4 : PySem.W.nsIn K mainGlobals "HIGH_AT" = some (some (.int 6 t4)))
    (u5 : PySem.W.nsIn K mainGlobals "NO_MARK" = some (some (.int 1 t5)))
    (u6 : PySem.W.nsIn K mainGlobals "NO_SIDE" = some (some (.int 2 t6)))
    (u7 : PySem.W.nsIn K mainGlobals "TOO_SHORT" = some (some (.int 3 t7)))
    (u8 : PySem.W.nsIn K mainGlobals "TOO_MANY" = some (some (.int 4 t8)))
    (u9 : PySem.W.nsIn K mainGlobals "SAME_PAINT" = some (some (.int 5 t9)))
    (u10 : PySem.W.nsIn K mainGlobals "TOO_LONG_runs" = some (some (.int 6 t10)))
    (u11 : PySem.W.nsIn K mainGlobals "TOO_LONG_sheets" = some (some (.int (-2) t11)))
    (u12 : PySem.W.nsIn K mainGlobals "NO_SHEET" = some (some (.int (-6) t12)))
    (u13 : PySem.W.nsIn K mainGlobals "MOST_BYTES" = some (some (.int 131080 t13)))
    (y0 : PySem.W.nsIn K mainGlobals "len" = some none)
    (y1 : PySem.W.nsIn K mainGlobals "range" = some none)
    (ma : PySem.W.nsIn K mainGlobals "MARK" = some (some (.ref aM)))
    (mb : K.lookup aM = some ⟨.type "list", none, .seq #[.int 67 tM0, .int 69 tM1, .int 76 tM2, .int 49 tM3] nM, slM⟩)
    : ∃ fd : FuncData, (∀ (s : Shared) (us : List Value), us.length = (["b"] : List Str).length → BindsTo s fd ⟨us, []⟩ ((["b"] : List Str).zip us)) ∧ ∀ base : Heap, K.In base → base.Ns mainGlobals mg → FnOk P w K mg base CX0 7 fa fd ["b"] (spAns K) := by
  have e := hfa.symm.trans (PySem.W.mg_of X G a11)
  cases e
  have F1 := fun_mk (st := sFI) l1 c1 k1
  have b1 := F1.binds (ps := ["self", "kind", "place"]) fun _ _ _ _ _ _ us hl => match us, hl with | [_, _, _], _ => rfl
  have F2 := fun_mk (st := sSI) l2 c2 k2
  have b2 := F2.binds (ps := ["self", "wide", "high", "points"]) fun _ _ _ _ _ _ us hl => match us, hl with | [_, _, _, _], _ => rfl
  have F3 := fun_mk (st := sRI) l3 c3 k3
  have b3 := F3.binds (ps := ["self", "row"]) fun _ _ _ _ _ _ us hl => match us, hl with | [_, _], _ => rfl
  have F4 := fun_mk (st := sTr) l4 c4 k4
  have b4 := F4.binds (ps := ["self", "left", "before"]) fun _ _ _ _ _ _ us hl => match us, hl with | [_, _, _], _ => rfl
  have F5 := fun_mk (st := sTw) l5 c5 k5
  have b5 := F5.binds (ps := ["self", "wide"]) fun _ _ _ _ _ _ us hl => match us, hl with | [_, _], _ => rfl
  have F_is_side := fun_mk (st := sSide) l6 c6 k6
  have g_is_side := PySem.W.mg_of X G a6
  have b_is_side := F_is_side.binds (ps := ["number"]) fun _ _ _ _ _ _ us hl => match us, hl with | [_], _ => rfl
  have F_number_at := fun_mk (st := sNa) l7 c7 k7
  have g_number_at := PySem.W.mg_of X G a7
  have b_number_at := F_number_at.binds (ps := ["row", "at"]) fun _ _ _ _ _ _ us hl => match us, hl with | [_, _], _ => rfl
  have F_head_of := fun_mk (st := sHd) l8 c8 k8
  have g_head_of := PySem.W.mg_of X G a8
  have b_head_of := F_head_of.binds (ps := ["row"]) fun _ _ _ _ _ _ us hl => match us, hl with | [_], _ => rfl
  have F_read_sheet := fun_mk (st := sRs) l9 c9 k9
  have g_read_sheet := PySem.W.mg_of X G a9
  have b_read_sheet := F_read_sheet.binds (ps := ["row"]) fun _ _ _ _ _ _ us hl => match us, hl with | [_], _ => rfl
  have F_sheet_in := fun_mk (st := sIn) l10 c10 k10
  have g_sheet_in := PySem.W.mg_of X G a10
  have b_sheet_in := F_sheet_in.binds (ps := ["b"]) fun _ _ _ _ _ _ us hl => match us, hl with | [_], _ => rfl
  have F_size := fun_mk (st := sAns) l11 c11 k11
  have g_size := PySem.W.mg_of X G a11
  have b_size := F_size.binds (ps := ["b"]) fun _ _ _ _ _ _ us hl => match us, hl with | [_], _ => rfl
  have v_MOST_SIDE := PySem.W.mg_of X G u0
  have v_HEAD := PySem.W.mg_of X G u1
  have v_BYTE := PySem.W.mg_of X G u2
  have v_WIDE_AT := PySem.W.mg_of X G u3
  have v_HIGH_AT := PySem.W.mg_of X G u4
  have v_NO_MARK := PySem.W.mg_of X G u5
  have v_NO_SIDE := PySem.W.mg_of X G u6
  have v_TOO_SHORT := PySem.W.mg_of X G u7
  have v_TOO_MANY := PySem.W.mg_of X G u8
  have v_SAME_PAINT := PySem.W.mg_of X G u9
  have v_TOO_LONG_runs := PySem.W.mg_of X G u10
  have v_TOO_LONG_sheets := PySem.W.mg_of X G u11
  have v_NO_SHEET := PySem.W.mg_of X G u12
  have v_MOST_BYTES := PySem.W.mg_of X G u13
  have T : Txt K mg CF CR CS f1 aM := { ox := ⟨⟨nm, q, N, bs, _, sn, sub, ab, col, dd, m0, m1, m2, m3, m5, xL, by decide +kernel⟩, saF, eCF, tCF, kcF⟩, iC := a1, tI := tIF, gF := PySem.W.mg_of X G aF, eF := exm_self eCF iCF tCF sCF, nK := nKF, nP := nPF, vV := vVF, mV := PySem.W.mg_none_of X G zVF, xf := ⟨gaF, ggF, eCF, hCF⟩, gR := PySem.W.mg_of X G aR, clR := ⟨pgR, hdR, poR, saR⟩, nRow := n_rowR, nAt := n_atR, gS := PySem.W.mg_of X G aS, clS := ⟨pgS, hdS, poS, saS⟩, nW := n_wideS, nH := n_highS, nPt := n_pointsS, gM := PySem.W.mg_of X G ma, sM := fun _ => .inr ⟨_, _, _, mb, rfl, rfl, rfl, by rw [sizeLine_eq]; show 4 ≤ _; decide, .cons ⟨_, rfl⟩ (.cons ⟨_, rfl⟩ (.cons ⟨_, rfl⟩ (.cons ⟨_, rfl⟩ .nil)))⟩, mL := PySem.W.mg_none_of X G y0, mR := PySem.W.mg_none_of X G y1, kHead := ⟨_, v_HEAD⟩, kByte := ⟨_, v_BYTE⟩, kWide := ⟨_, v_WIDE_AT⟩, kHigh := ⟨_, v_HIGH_AT⟩, kMark := ⟨_, v_NO_MARK⟩, kSide := ⟨_, v_NO_SIDE⟩, kShort := ⟨_, v_TOO_SHORT⟩, kMany := ⟨_, v_TOO_MANY⟩, kSame := ⟨_, v_SAME_PAINT⟩, kLong := ⟨_, v_TOO_LONG_runs⟩ }
  have fin : ∀ base : Heap, FnOk P w K mg base (L2.CX P w) 5 f9 _ ["row"] (spRs K CS CF) := fun base => ok_Rs F_read_sheet T (ok_FI F1 T) b1 (ok_Hd F_head_of T (ok_FI F1 T) b1 (ok_Na F_number_at T) g_number_at F_number_at.kp b_number_at (ok_side F_is_side v_MOST_SIDE) g_is_side F_is_side.kp b_is_side) g_head_of F_head_of.kp b_head_of
    (ok_Tw F5 T (ok_Tr F4 T (ok_FI F1 T) b1) ⟨a4, i4, k4⟩ b4) ⟨a5, i5, k5⟩ b5 ⟨mkR, a3, i3, kcR⟩ (ok_RI F3 T) b3 ⟨mkS, a2, i2, kcS⟩ (ok_SI F2 T) b2
  exact ⟨PySem.W.fnOf "size" "size" (defArgs sAns) (defBody sAns) (defScope sAns) .none kV11 dc11 pm11 an11 cd11 ct11, fun s us hu => match us, hu with | [_], _ => .of_eq rfl, fun base _ _ => ok_ans F_size T (ok_In F_sheet_in T (fin base) g_read_sheet F_read_sheet.kp b_read_sheet) g_sheet_in F_sheet_in.kp b_sheet_in ⟨_, v_TOO_LONG_sheets⟩ ⟨_, v_NO_SHEET⟩ ⟨_, v_MOST_BYTES⟩⟩
end Wk
namespace Wk
open PySem.W
theorem in_int {lo hi z : Int} (h : Codec.inInt lo hi z = true) : lo ≤ z ∧ z ≤ hi := by
  unfold Codec.inInt at h
  rw [Bool.and_eq_true, decide_eq_true_iff, decide_eq_true_iff] at h
  exact h
theorem in_list {hi : Int} {most : Nat} {l : List Int} (h : Codec.inList 0 most (Codec.inInt 0 hi) l = true) : l.length ≤ most ∧ ∀ z, z ∈ l → 0 ≤ z ∧ z ≤ hi := by
  unfold Codec.inList Codec.inLen Codec.inNat at h
  rw [Bool.and_eq_true, Bool.and_eq_true, decide_eq_true_iff, decide_eq_true_iff] at h
  exact ⟨h.1.2, fun z hz => in_int (List.all_eq_true.mp h.2 z hz)⟩
end Wk
open PySem PySem.W PyProof.Rows
set_option maxRecDepth 100000 in
set_option maxHeartbeats 8000000 in
theorem PySem.Challenge.cw_paintsheets_s02_size_holds : PySem.Challenge.rw_paintsheets_s02_size.Holds := by
  w_on; k_headS; (case hw => exact ⟨[.list []], by decide +kernel, by decide +kernel⟩)
  k_fillS
  refine L2.walk_specK (r := PySem.Challenge.rw_paintsheets_s02_size) (k := 7) (CX := L2.CX0) (ps := ["b"]) (sp := Wk.spAns) (by decide +kernel) rfl rfl ⟨rfl, by decide, by decide⟩ (fun w h Y => PySem.W.kIn_of Y) ?F ?S (fun _ _ _ _ z => z)
  case F =>
    intro w mg fa h Y KX G hmg
    refine' Wk.all_mk KX G hmg ?aF ?aR ?aS ?xL ?saF ?gaF ?ggF ?nKF ?nPF ?kcF ?eCF ?tCF ?hCF ?iCF ?sCF ?vVF ?zVF ?pgR ?hdR ?poR ?saR ?mkR ?kcR ?n_rowR ?n_atR ?pgS ?hdS ?poS ?saS ?mkS ?kcS ?n_wideS ?n_highS ?n_pointsS ?a1 ?i1 ?l1 ?c1 ?k1 ?a2 ?i2 ?l2 ?c2 ?k2 ?a3 ?i3 ?l3 ?c3 ?k3 ?a4 ?i4 ?l4 ?c4 ?k4 ?a5 ?i5 ?l5 ?c5 ?k5 ?tIF ?a6 ?l6 ?c6 ?k6 ?a7 ?l7 ?c7 ?k7 ?a8 ?l8 ?c8 ?k8 ?a9 ?l9 ?c9 ?k9 ?a10 ?l10 ?c10 ?k10 ?a11 ?l11 ?c11 ?k11 ?u0 ?u1 ?u2 ?u3 ?u4 ?u5 ?u6 ?u7 ?u8 ?u9 ?u10 ?u11 ?u12 ?u13 ?y0 ?y1 ?ma ?mb
    (case aF => k_is)
    (case aR => k_is)
    (case aS => k_is)
    (case xL => k_is)
    (case saF => k_is)
    (case gaF => k_is)
    (case ggF => k_is)
    (case nKF => k_is)
    (case nPF => k_is)
    (case kcF => k_is)
    (case eCF => k_is)
    (case tCF => k_is)
    (case hCF => k_is)
    (case iCF => k_is)
    (case sCF => first | rfl | k_is)
    (case vVF => k_is)
    (case zVF => k_is)
    (case pgR => k_is)
    (case hdR => k_is)
    (case poR => k_is)
    (case saR => k_is)
    (case mkR => k_is)
    (case kcR => k_is)
    (case n_rowR => k_is)
    (case n_atR => k_is)
    (case pgS => k_is)
    (case hdS => k_is)
    (case poS => k_is)
    (case saS => k_is)
    (case mkS => k_is)
    (case kcS => k_is)
    (case n_wideS => k_is)
    (case n_highS => k_is)
    (case n_pointsS => k_is)
    (case a1 => k_is)
    (case i1 => k_is)
    (case l1 => k_is)
    (case c1 => k_is)
    (case k1 => k_is)
    (case a2 => k_is)
    (case i2 => k_is)
    (case l2 => k_is)
    (case c2 => k_is)
    (case k2 => k_is)
    (case a3 => k_is)
    (case i3 => k_is)
    (case l3 => k_is)
    (case c3 => k_is)
    (case k3 => k_is)
    (case a4 => k_is)
    (case i4 => k_is)
    (case l4 => k_is)
    (case c4 => k_is)
    (case k4 => k_is)
    (case a5 => k_is)
    (case i5 => k_is)
    (case l5 => k_is)
    (case c5 => k_is)
    (case k5 => k_is)
    (case tIF => k_is)
    (case a6 => k_is)
    (case l6 => k_is)
    (case c6 => k_is)
    (case k6 => k_is)
    (case a7 => k_is)
    (case l7 => k_is)
    (case c7 => k_is)
    (case k7 => k_is)
    (case a8 => k_is)
    (case l8 => k_is)
    (case c8 => k_is)
    (case k8 => k_is)
    (case a9 => k_is)
    (case l9 => k_is)
    (case c9 => k_is)
    (case k9 => k_is)
    (case a10 => k_is)
    (case l10 => k_is)
    (case c10 => k_is)
    (case k10 => k_is)
    (case a11 => k_is)
    (case l11 => k_is)
    (case c11 => k_is)
    (case k11 => k_is)
    (case u0 => k_is)
    (case u1 => k_is)
    (case u2 => k_is)
    (case u3 => k_is)
    (case u4 => k_is)
    (case u5 => k_is)
    (case u6 => k_is)
    (case u7 => k_is)
    (case u8 => k_is)
    (case u9 => k_is)
    (case u10 => k_is)
    (case u11 => k_is)
    (case u12 => k_is)
    (case u13 => k_is)
    (case y0 => k_is)
    (case y1 => k_is)
    (case ma => k_is)
    (case mb => k_is)
  case S =>
    intro K H xs a hO hwi hask hx
    cases hx with
    | cons h0 hx =>
      cases h0 with
      | lst s0 d0 =>
        have e0 := L2.ints_dw a.1 _ d0
        subst e0
        cases hx
        have q := hwi
        have q0 := (Bool.and_eq_true_iff.mp q).1
        replace q := (Bool.and_eq_true_iff.mp q).2
        have m0 := (Wk.in_list q0).1
        have b0 := (Wk.in_list q0).2
        have e := Pm.size_is (b := a.1) m0 b0
        refine ⟨_, a.1, rfl, s0, m0, b0, fun H' p hp => ?_⟩
        rw [← e] at hp
        exact .lst (L2.SqL.of hp) (L2.dw_ints _)
#print axioms PySem.Challenge.cw_paintsheets_s02_size_holds
