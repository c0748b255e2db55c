/- The mathematics of what is laid with anything around it: it is taken as it was. Nothing of the program. -/
import Derived.Test.YtbajgpbekanodaaOctForm
namespace Go.Proofs.Ytbajgpbekanodaa
namespace Oct

theorem data_join (a b : ByteArray) : (a ++ b).data.toList = a.data.toList ++ b.data.toList := by rw [ByteArray.data_append, Array.toList_append]
theorem tnB_laid (x y : ByteArray) (n : Nat) (h : n < 18446744073709551616) : tnB (x ++ numB n ++ y) (x.size : Int) = (n, x.size + (numB n).size, 0) := by
  have hl : x.data.toList.length = x.size := by simp
  unfold tnB tnI
  rw [data_join, data_join, numB_list, List.append_assoc, if_neg (by simp; omega), Int.toNat_natCast]
  have h1 := tn_append x.data.toList (num n ++ y.data.toList)
  rw [hl, tn_num n h] at h1
  simp only at h1
  rw [h1, numB_size]
  simp
theorem cut_mid (x t y : ByteArray) : (x ++ t ++ y).extract x.size (x.size + t.size) = t := by
  have h : ((x ++ t ++ y).extract x.size (x.size + t.size)).data.toList = t.data.toList := by
    have h1 : x.data.toList.length = x.size := by simp
    have h2 : t.data.toList.length = t.size := by simp
    rw [cut_list, data_join, data_join, List.append_assoc, ← h1, List.drop_left, ← h2]
    rw [show x.data.toList.length + t.data.toList.length - x.data.toList.length = t.data.toList.length by omega]
    exact List.take_left
  exact ByteArray.ext (Array.toList_inj.1 h)
theorem ttB_laid (x t y : ByteArray) (h : t.size < 18446744073709551616) : ttB (x ++ textB t ++ y) (x.size : Int) = (t, x.size + (textB t).size, 0) := by
  have e1 : x ++ textB t ++ y = x ++ numB t.size ++ (t ++ y) := by
    unfold textB; simp only [ByteArray.append_assoc]
  have hn := tnB_laid x (t ++ y) t.size h
  have hc := cut_mid (x ++ numB t.size) t y
  unfold ttB
  rw [e1, hn]
  simp only [ne_eq, not_true_eq_false, if_false]
  have e2 : x ++ numB t.size ++ (t ++ y) = x ++ numB t.size ++ t ++ y := by simp only [ByteArray.append_assoc]
  rw [e2]
  rw [ByteArray.size_append] at hc
  rw [hc]
  have hsz : ¬ (x ++ numB t.size ++ t ++ y).size - (x.size + (numB t.size).size) < t.size := by
    simp only [ByteArray.size_append]; omega
  rw [if_neg hsz]
  unfold textB
  simp only [ByteArray.size_append, Prod.mk.injEq, true_and, and_true]
  omega
/-- Texts laid one behind the other. -/
def lay : List ByteArray → ByteArray
  | [] => ByteArray.empty
  | t :: r => textB t ++ lay r
theorem lay_fold (l : List ByteArray) : ∀ b : ByteArray, l.foldl (fun b s => b ++ textB s) b = b ++ lay l := by
  induction l with
  | nil => intro b; unfold lay; simp
  | cons t r ih => intro b; rw [List.foldl_cons, ih, ByteArray.append_assoc]; rfl
theorem listB_lay (l : List ByteArray) : listB l = numB l.length ++ lay l := lay_fold l _
theorem tlF_laid (ts : List ByteArray) : ∀ (x y : ByteArray) (acc : List ByteArray), (∀ t ∈ ts, t.size < 18446744073709551616) →
    tlF (x ++ lay ts ++ y) ts.length x.size acc = (acc ++ ts, x.size + (lay ts).size, 0) := by
  induction ts with
  | nil => intro x y acc _; unfold lay tlF; simp
  | cons t r ih =>
    intro x y acc h
    have e1 : x ++ lay (t :: r) ++ y = x ++ textB t ++ (lay r ++ y) := by
      show x ++ (textB t ++ lay r) ++ y = _
      simp only [ByteArray.append_assoc]
    have h1 := ttB_laid x t (lay r ++ y) (h t (by simp))
    have e2 : x ++ textB t ++ (lay r ++ y) = (x ++ textB t) ++ lay r ++ y := by simp only [ByteArray.append_assoc]
    have h2 := ih (x ++ textB t) y (acc ++ [t]) (fun u hu => h u (by simp [hu]))
    rw [e1, List.length_cons]
    unfold tlF
    rw [h1]
    simp only [ne_eq, not_true_eq_false, if_false]
    rw [e2]
    rw [ByteArray.size_append] at h2
    rw [h2]
    simp only [List.append_assoc, List.singleton_append, Prod.mk.injEq, true_and, and_true]
    show _ = x.size + (textB t ++ lay r).size
    rw [ByteArray.size_append]
    omega
theorem tlB_laid (x y : ByteArray) (l : List ByteArray) (hl : l.length < 18446744073709551616) (h : ∀ t ∈ l, t.size < 18446744073709551616) : tlB (x ++ listB l ++ y) (x.size : Int) = (l, x.size + (listB l).size, 0) := by
  have e1 : x ++ listB l ++ y = x ++ numB l.length ++ (lay l ++ y) := by rw [listB_lay]; simp only [ByteArray.append_assoc]
  have hn := tnB_laid x (lay l ++ y) l.length hl
  have e2 : x ++ numB l.length ++ (lay l ++ y) = (x ++ numB l.length) ++ lay l ++ y := by simp only [ByteArray.append_assoc]
  have h2 := tlF_laid l (x ++ numB l.length) y [] h
  unfold tlB
  rw [e1, hn]
  simp only [ne_eq, not_true_eq_false, if_false]
  rw [e2]
  rw [ByteArray.size_append] at h2
  rw [h2, listB_lay, ByteArray.size_append]
  simp only [List.nil_append, Prod.mk.injEq, true_and, and_true]
  omega
end Oct
end Go.Proofs.Ytbajgpbekanodaa
