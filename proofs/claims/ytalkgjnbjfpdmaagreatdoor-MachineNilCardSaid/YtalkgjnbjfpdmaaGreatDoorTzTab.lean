/- The evaluator's tables of the program: types, functions, plans of the regions that draw. No condition. -/
import Derived.Test.YtalkgjnbjfpdmaaGreatDoorProg
import Derived.Test.YtalkgjnbjfpdmaaGreatDoorCsCall
namespace Go.Proofs
open Go Go.CS
set_option maxRecDepth 100000
set_option maxHeartbeats 4000000
noncomputable def Tryz.cT780 : Tr CT := .n (some (mkT Tryz.t780 Tryz.t779)) .e .e
noncomputable def Tryz.cT779 : Tr CT := .n (some (mkT Tryz.t779 Tryz.t779)) .e .e
noncomputable def Tryz.cT778 : Tr CT := .n (some (mkT Tryz.t778 Tryz.t21)) .e .e
noncomputable def Tryz.cT777 : Tr CT := .n (some (mkT Tryz.t777 Tryz.t21)) .e .e
noncomputable def Tryz.cT776 : Tr CT := .n (some (mkT Tryz.t776 Tryz.t776)) .e .e
noncomputable def Tryz.cT775 : Tr CT := .n (some (mkT Tryz.t775 Tryz.t5)) .e .e
noncomputable def Tryz.cT774 : Tr CT := .n (some (mkT Tryz.t774 Tryz.t5)) .e .e
noncomputable def Tryz.cT773 : Tr CT := .n (some (mkT Tryz.t773 Tryz.t772)) .e .e
noncomputable def Tryz.cT772 : Tr CT := .n (some (mkT Tryz.t772 Tryz.t772)) .e .e
noncomputable def Tryz.cT771 : Tr CT := .n (some (mkT Tryz.t771 Tryz.t771)) .e .e
noncomputable def Tryz.cT770 : Tr CT := .n (some (mkT Tryz.t770 Tryz.t769)) .e .e
noncomputable def Tryz.cT769 : Tr CT := .n (some (mkT Tryz.t769 Tryz.t769)) .e .e
noncomputable def Tryz.cT768 : Tr CT := .n (some (mkT Tryz.t768 Tryz.t768)) .e .e
noncomputable def Tryz.cT767 : Tr CT := .n (some (mkT Tryz.t767 Tryz.t766)) .e .e
noncomputable def Tryz.cT766 : Tr CT := .n (some (mkT Tryz.t766 Tryz.t766)) .e .e
noncomputable def Tryz.cT765 : Tr CT := .n (some (mkT Tryz.t765 Tryz.t764)) .e .e
noncomputable def Tryz.cT764 : Tr CT := .n (some (mkT Tryz.t764 Tryz.t764)) .e .e
noncomputable def Tryz.cT763 : Tr CT := .n (some (mkT Tryz.t763 Tryz.t763)) .e .e
noncomputable def Tryz.cT762 : Tr CT := .n (some (mkT Tryz.t762 Tryz.t762)) .e .e
noncomputable def Tryz.cT761 : Tr CT := .n (some (mkT Tryz.t761 Tryz.t761)) .e .e
noncomputable def Tryz.cT760 : Tr CT := .n (some (mkT Tryz.t760 Tryz.t760)) .e .e
noncomputable def Tryz.cT759 : Tr CT := .n (some (mkT Tryz.t759 Tryz.t759)) .e .e
noncomputable def Tryz.cT758 : Tr CT := .n (some (mkT Tryz.t758 Tryz.t758)) .e .e
noncomputable def Tryz.cT757 : Tr CT := .n (some (mkT Tryz.t757 Tryz.t757)) .e .e
noncomputable def Tryz.cT756 : Tr CT := .n (some (mkT Tryz.t756 Tryz.t756)) .e .e
noncomputable def Tryz.cT755 : Tr CT := .n (some (mkT Tryz.t755 Tryz.t755)) .e .e
noncomputable def Tryz.cT754 : Tr CT := .n (some (mkT Tryz.t754 Tryz.t753)) .e .e
noncomputable def Tryz.cT753 : Tr CT := .n (some (mkT Tryz.t753 Tryz.t753)) .e .e
noncomputable def Tryz.cT752 : Tr CT := .n (some (mkT Tryz.t752 Tryz.t752)) .e .e
noncomputable def Tryz.cT751 : Tr CT := .n (some (mkT Tryz.t751 Tryz.t751)) .e .e
noncomputable def Tryz.cT750 : Tr CT := .n (some (mkT Tryz.t750 Tryz.t750)) .e .e
noncomputable def Tryz.cT749 : Tr CT := .n (some (mkT Tryz.t749 Tryz.t749)) .e .e
noncomputable def Tryz.cT748 : Tr CT := .n (some (mkT Tryz.t748 Tryz.t748)) .e .e
noncomputable def Tryz.cT747 : Tr CT := .n (some (mkT Tryz.t747 Tryz.t747)) .e .e
noncomputable def Tryz.cT746 : Tr CT := .n (some (mkT Tryz.t746 Tryz.t745)) .e .e
noncomputable def Tryz.cT745 : Tr CT := .n (some (mkT Tryz.t745 Tryz.t745)) .e .e
noncomputable def Tryz.cT744 : Tr CT := .n (some (mkT Tryz.t744 Tryz.t744)) .e .e
noncomputable def Tryz.cT743 : Tr CT := .n (some (mkT Tryz.t743 Tryz.t743)) .e .e
noncomputable def Tryz.cT742 : Tr CT := .n (some (mkT Tryz.t742 Tryz.t742)) .e .e
noncomputable def Tryz.cT741 : Tr CT := .n (some (mkT Tryz.t741 Tryz.t741)) .e .e
noncomputable def Tryz.cT740 : Tr CT := .n (some (mkT Tryz.t740 Tryz.t740)) .e .e
noncomputable def Tryz.cT739 : Tr CT := .n (some (mkT Tryz.t739 Tryz.t739)) .e .e
noncomputable def Tryz.cT738 : Tr CT := .n (some (mkT Tryz.t738 Tryz.t738)) .e .e
noncomputable def Tryz.cT737 : Tr CT := .n (some (mkT Tryz.t737 Tryz.t737)) .e .e
noncomputable def Tryz.cT736 : Tr CT := .n (some (mkT Tryz.t736 Tryz.t736)) .e .e
noncomputable def Tryz.cT735 : Tr CT := .n (some (mkT Tryz.t735 Tryz.t735)) .e .e
noncomputable def Tryz.cT734 : Tr CT := .n (some (mkT Tryz.t734 Tryz.t734)) .e .e
noncomputable def Tryz.cT733 : Tr CT := .n (some (mkT Tryz.t733 Tryz.t733)) .e .e
noncomputable def Tryz.cT732 : Tr CT := .n (some (mkT Tryz.t732 Tryz.t732)) .e .e
noncomputable def Tryz.cT731 : Tr CT := .n (some (mkT Tryz.t731 Tryz.t731)) .e .e
noncomputable def Tryz.cT730 : Tr CT := .n (some (mkT Tryz.t730 Tryz.t730)) .e .e
noncomputable def Tryz.cT729 : Tr CT := .n (some (mkT Tryz.t729 Tryz.t729)) .e .e
noncomputable def Tryz.cT728 : Tr CT := .n (some (mkT Tryz.t728 Tryz.t728)) .e .e
noncomputable def Tryz.cT727 : Tr CT := .n (some (mkT Tryz.t727 Tryz.t727)) .e .e
noncomputable def Tryz.cT726 : Tr CT := .n (some (mkT Tryz.t726 Tryz.t726)) .e .e
noncomputable def Tryz.cT725 : Tr CT := .n (some (mkT Tryz.t725 Tryz.t725)) .e .e
noncomputable def Tryz.cT724 : Tr CT := .n (some (mkT Tryz.t724 Tryz.t724)) .e .e
noncomputable def Tryz.cT723 : Tr CT := .n (some (mkT Tryz.t723 Tryz.t723)) .e .e
noncomputable def Tryz.cT722 : Tr CT := .n (some (mkT Tryz.t722 Tryz.t722)) .e .e
noncomputable def Tryz.cT721 : Tr CT := .n (some (mkT Tryz.t721 Tryz.t721)) .e .e
noncomputable def Tryz.cT720 : Tr CT := .n (some (mkT Tryz.t720 Tryz.t720)) .e .e
noncomputable def Tryz.cT719 : Tr CT := .n (some (mkT Tryz.t719 Tryz.t718)) .e .e
noncomputable def Tryz.cT718 : Tr CT := .n (some (mkT Tryz.t718 Tryz.t718)) .e .e
noncomputable def Tryz.cT717 : Tr CT := .n (some (mkT Tryz.t717 Tryz.t717)) .e .e
noncomputable def Tryz.cT716 : Tr CT := .n (some (mkT Tryz.t716 Tryz.t716)) .e .e
noncomputable def Tryz.cT715 : Tr CT := .n (some (mkT Tryz.t715 Tryz.t715)) .e .e
noncomputable def Tryz.cT714 : Tr CT := .n (some (mkT Tryz.t714 Tryz.t714)) .e .e
noncomputable def Tryz.cT713 : Tr CT := .n (some (mkT Tryz.t713 Tryz.t713)) .e .e
noncomputable def Tryz.cT712 : Tr CT := .n (some (mkT Tryz.t712 Tryz.t712)) .e .e
noncomputable def Tryz.cT711 : Tr CT := .n (some (mkT Tryz.t711 Tryz.t711)) .e .e
noncomputable def Tryz.cT710 : Tr CT := .n (some (mkT Tryz.t710 Tryz.t710)) .e .e
noncomputable def Tryz.cT709 : Tr CT := .n (some (mkT Tryz.t709 Tryz.t709)) .e .e
noncomputable def Tryz.cT708 : Tr CT := .n (some (mkT Tryz.t708 Tryz.t708)) .e .e
noncomputable def Tryz.cT707 : Tr CT := .n (some (mkT Tryz.t707 Tryz.t707)) .e .e
noncomputable def Tryz.cT706 : Tr CT := .n (some (mkT Tryz.t706 Tryz.t706)) .e .e
noncomputable def Tryz.cT705 : Tr CT := .n (some (mkT Tryz.t705 Tryz.t705)) .e .e
noncomputable def Tryz.cT704 : Tr CT := .n (some (mkT Tryz.t704 Tryz.t704)) .e .e
noncomputable def Tryz.cT703 : Tr CT := .n (some (mkT Tryz.t703 Tryz.t703)) .e .e
noncomputable def Tryz.cT702 : Tr CT := .n (some (mkT Tryz.t702 Tryz.t702)) .e .e
noncomputable def Tryz.cT701 : Tr CT := .n (some (mkT Tryz.t701 Tryz.t701)) .e .e
noncomputable def Tryz.cT700 : Tr CT := .n (some (mkT Tryz.t700 Tryz.t700)) .e .e
noncomputable def Tryz.cT699 : Tr CT := .n (some (mkT Tryz.t699 Tryz.t699)) .e .e
noncomputable def Tryz.cT698 : Tr CT := .n (some (mkT Tryz.t698 Tryz.t698)) .e .e
noncomputable def Tryz.cT697 : Tr CT := .n (some (mkT Tryz.t697 Tryz.t696)) .e .e
noncomputable def Tryz.cT696 : Tr CT := .n (some (mkT Tryz.t696 Tryz.t696)) .e .e
noncomputable def Tryz.cT695 : Tr CT := .n (some (mkT Tryz.t695 Tryz.t695)) .e .e
noncomputable def Tryz.cT694 : Tr CT := .n (some (mkT Tryz.t694 Tryz.t694)) .e .e
noncomputable def Tryz.cT693 : Tr CT := .n (some (mkT Tryz.t693 Tryz.t693)) .e .e
noncomputable def Tryz.cT692 : Tr CT := .n (some (mkT Tryz.t692 Tryz.t692)) .e .e
noncomputable def Tryz.cT691 : Tr CT := .n (some (mkT Tryz.t691 Tryz.t691)) .e .e
noncomputable def Tryz.cT690 : Tr CT := .n (some (mkT Tryz.t690 Tryz.t690)) .e .e
noncomputable def Tryz.cT689 : Tr CT := .n (some (mkT Tryz.t689 Tryz.t689)) .e .e
noncomputable def Tryz.cT688 : Tr CT := .n (some (mkT Tryz.t688 Tryz.t688)) .e .e
noncomputable def Tryz.cT687 : Tr CT := .n (some (mkT Tryz.t687 Tryz.t687)) .e .e
noncomputable def Tryz.cT686 : Tr CT := .n (some (mkT Tryz.t686 Tryz.t686)) .e .e
noncomputable def Tryz.cT685 : Tr CT := .n (some (mkT Tryz.t685 Tryz.t685)) .e .e
noncomputable def Tryz.cT684 : Tr CT := .n (some (mkT Tryz.t684 Tryz.t683)) .e .e
noncomputable def Tryz.cT683 : Tr CT := .n (some (mkT Tryz.t683 Tryz.t683)) .e .e
noncomputable def Tryz.cT682 : Tr CT := .n (some (mkT Tryz.t682 Tryz.t682)) .e .e
noncomputable def Tryz.cT681 : Tr CT := .n (some (mkT Tryz.t681 Tryz.t681)) .e .e
noncomputable def Tryz.cT680 : Tr CT := .n (some (mkT Tryz.t680 Tryz.t680)) .e .e
noncomputable def Tryz.cT679 : Tr CT := .n (some (mkT Tryz.t679 Tryz.t679)) .e .e
noncomputable def Tryz.cT678 : Tr CT := .n (some (mkT Tryz.t678 Tryz.t678)) .e .e
noncomputable def Tryz.cT677 : Tr CT := .n (some (mkT Tryz.t677 Tryz.t677)) .e .e
noncomputable def Tryz.cT676 : Tr CT := .n (some (mkT Tryz.t676 Tryz.t676)) .e .e
noncomputable def Tryz.cT675 : Tr CT := .n (some (mkT Tryz.t675 Tryz.t675)) .e .e
noncomputable def Tryz.cT674 : Tr CT := .n (some (mkT Tryz.t674 Tryz.t674)) .e .e
noncomputable def Tryz.cT673 : Tr CT := .n (some (mkT Tryz.t673 Tryz.t673)) .e .e
noncomputable def Tryz.cT672 : Tr CT := .n (some (mkT Tryz.t672 Tryz.t672)) .e .e
noncomputable def Tryz.cT671 : Tr CT := .n (some (mkT Tryz.t671 Tryz.t671)) .e .e
noncomputable def Tryz.cT670 : Tr CT := .n (some (mkT Tryz.t670 Tryz.t670)) .e .e
noncomputable def Tryz.cT669 : Tr CT := .n (some (mkT Tryz.t669 Tryz.t669)) .e .e
noncomputable def Tryz.cT668 : Tr CT := .n (some (mkT Tryz.t668 Tryz.t668)) .e .e
noncomputable def Tryz.cT667 : Tr CT := .n (some (mkT Tryz.t667 Tryz.t667)) .e .e
noncomputable def Tryz.cT666 : Tr CT := .n (some (mkT Tryz.t666 Tryz.t666)) .e .e
noncomputable def Tryz.cT665 : Tr CT := .n (some (mkT Tryz.t665 Tryz.t665)) .e .e
noncomputable def Tryz.cT664 : Tr CT := .n (some (mkT Tryz.t664 Tryz.t664)) .e .e
noncomputable def Tryz.cT663 : Tr CT := .n (some (mkT Tryz.t663 Tryz.t663)) .e .e
noncomputable def Tryz.cT662 : Tr CT := .n (some (mkT Tryz.t662 Tryz.t662)) .e .e
noncomputable def Tryz.cT661 : Tr CT := .n (some (mkT Tryz.t661 Tryz.t661)) .e .e
noncomputable def Tryz.cT660 : Tr CT := .n (some (mkT Tryz.t660 Tryz.t129)) .e .e
noncomputable def Tryz.cT659 : Tr CT := .n (some (mkT Tryz.t659 Tryz.t659)) .e .e
noncomputable def Tryz.cT658 : Tr CT := .n (some (mkT Tryz.t658 Tryz.t658)) .e .e
noncomputable def Tryz.cT657 : Tr CT := .n (some (mkT Tryz.t657 Tryz.t657)) .e .e
noncomputable def Tryz.cT656 : Tr CT := .n (some (mkT Tryz.t656 Tryz.t656)) .e .e
noncomputable def Tryz.cT655 : Tr CT := .n (some (mkT Tryz.t655 Tryz.t655)) .e .e
noncomputable def Tryz.cT654 : Tr CT := .n (some (mkT Tryz.t654 Tryz.t654)) .e .e
noncomputable def Tryz.cT653 : Tr CT := .n (some (mkT Tryz.t653 Tryz.t653)) .e .e
noncomputable def Tryz.cT652 : Tr CT := .n (some (mkT Tryz.t652 Tryz.t652)) .e .e
noncomputable def Tryz.cT651 : Tr CT := .n (some (mkT Tryz.t651 Tryz.t651)) .e .e
noncomputable def Tryz.cT650 : Tr CT := .n (some (mkT Tryz.t650 Tryz.t650)) .e .e
noncomputable def Tryz.cT649 : Tr CT := .n (some (mkT Tryz.t649 Tryz.t649)) .e .e
noncomputable def Tryz.cT648 : Tr CT := .n (some (mkT Tryz.t648 Tryz.t648)) .e .e
noncomputable def Tryz.cT647 : Tr CT := .n (some (mkT Tryz.t647 Tryz.t647)) .e .e
noncomputable def Tryz.cT646 : Tr CT := .n (some (mkT Tryz.t646 Tryz.t646)) .e .e
noncomputable def Tryz.cT645 : Tr CT := .n (some (mkT Tryz.t645 Tryz.t645)) .e .e
noncomputable def Tryz.cT644 : Tr CT := .n (some (mkT Tryz.t644 Tryz.t644)) .e .e
noncomputable def Tryz.cT643 : Tr CT := .n (some (mkT Tryz.t643 Tryz.t643)) .e .e
noncomputable def Tryz.cT642 : Tr CT := .n (some (mkT Tryz.t642 Tryz.t642)) .e .e
noncomputable def Tryz.cT641 : Tr CT := .n (some (mkT Tryz.t641 Tryz.t641)) .e .e
noncomputable def Tryz.cT640 : Tr CT := .n (some (mkT Tryz.t640 Tryz.t640)) .e .e
noncomputable def Tryz.cT639 : Tr CT := .n (some (mkT Tryz.t639 Tryz.t639)) .e .e
noncomputable def Tryz.cT638 : Tr CT := .n (some (mkT Tryz.t638 Tryz.t637)) .e .e
noncomputable def Tryz.cT637 : Tr CT := .n (some (mkT Tryz.t637 Tryz.t637)) .e .e
noncomputable def Tryz.cT636 : Tr CT := .n (some (mkT Tryz.t636 Tryz.t636)) .e .e
noncomputable def Tryz.cT635 : Tr CT := .n (some (mkT Tryz.t635 Tryz.t635)) .e .e
noncomputable def Tryz.cT634 : Tr CT := .n (some (mkT Tryz.t634 Tryz.t634)) .e .e
noncomputable def Tryz.cT633 : Tr CT := .n (some (mkT Tryz.t633 Tryz.t633)) .e .e
noncomputable def Tryz.cT632 : Tr CT := .n (some (mkT Tryz.t632 Tryz.t632)) .e .e
noncomputable def Tryz.cT631 : Tr CT := .n (some (mkT Tryz.t631 Tryz.t631)) .e .e
noncomputable def Tryz.cT630 : Tr CT := .n (some (mkT Tryz.t630 Tryz.t630)) .e .e
noncomputable def Tryz.cT629 : Tr CT := .n (some (mkT Tryz.t629 Tryz.t628)) .e .e
noncomputable def Tryz.cT628 : Tr CT := .n (some (mkT Tryz.t628 Tryz.t628)) .e .e
noncomputable def Tryz.cT627 : Tr CT := .n (some (mkT Tryz.t627 Tryz.t627)) .e .e
noncomputable def Tryz.cT626 : Tr CT := .n (some (mkT Tryz.t626 Tryz.t626)) .e .e
noncomputable def Tryz.cT625 : Tr CT := .n (some (mkT Tryz.t625 Tryz.t625)) .e .e
noncomputable def Tryz.cT624 : Tr CT := .n (some (mkT Tryz.t624 Tryz.t624)) .e .e
noncomputable def Tryz.cT623 : Tr CT := .n (some (mkT Tryz.t623 Tryz.t623)) .e .e
noncomputable def Tryz.cT622 : Tr CT := .n (some (mkT Tryz.t622 Tryz.t621)) .e .e
noncomputable def Tryz.cT621 : Tr CT := .n (some (mkT Tryz.t621 Tryz.t621)) .e .e
noncomputable def Tryz.cT620 : Tr CT := .n (some (mkT Tryz.t620 Tryz.t620)) .e .e
noncomputable def Tryz.cT619 : Tr CT := .n (some (mkT Tryz.t619 Tryz.t619)) .e .e
noncomputable def Tryz.cT618 : Tr CT := .n (some (mkT Tryz.t618 Tryz.t618)) .e .e
noncomputable def Tryz.cT617 : Tr CT := .n (some (mkT Tryz.t617 Tryz.t617)) .e .e
noncomputable def Tryz.cT616 : Tr CT := .n (some (mkT Tryz.t616 Tryz.t616)) .e .e
noncomputable def Tryz.cT615 : Tr CT := .n (some (mkT Tryz.t615 Tryz.t615)) .e .e
noncomputable def Tryz.cT614 : Tr CT := .n (some (mkT Tryz.t614 Tryz.t614)) .e .e
noncomputable def Tryz.cT613 : Tr CT := .n (some (mkT Tryz.t613 Tryz.t613)) .e .e
noncomputable def Tryz.cT612 : Tr CT := .n (some (mkT Tryz.t612 Tryz.t612)) .e .e
noncomputable def Tryz.cT611 : Tr CT := .n (some (mkT Tryz.t611 Tryz.t611)) .e .e
noncomputable def Tryz.cT610 : Tr CT := .n (some (mkT Tryz.t610 Tryz.t610)) .e .e
noncomputable def Tryz.cT609 : Tr CT := .n (some (mkT Tryz.t609 Tryz.t609)) .e .e
noncomputable def Tryz.cT608 : Tr CT := .n (some (mkT Tryz.t608 Tryz.t608)) .e .e
noncomputable def Tryz.cT607 : Tr CT := .n (some (mkT Tryz.t607 Tryz.t607)) .e .e
noncomputable def Tryz.cT606 : Tr CT := .n (some (mkT Tryz.t606 Tryz.t606)) .e .e
noncomputable def Tryz.cT605 : Tr CT := .n (some (mkT Tryz.t605 Tryz.t605)) .e .e
noncomputable def Tryz.cT604 : Tr CT := .n (some (mkT Tryz.t604 Tryz.t603)) .e .e
noncomputable def Tryz.cT603 : Tr CT := .n (some (mkT Tryz.t603 Tryz.t603)) .e .e
noncomputable def Tryz.cT602 : Tr CT := .n (some (mkT Tryz.t602 Tryz.t602)) .e .e
noncomputable def Tryz.cT601 : Tr CT := .n (some (mkT Tryz.t601 Tryz.t601)) .e .e
noncomputable def Tryz.cT600 : Tr CT := .n (some (mkT Tryz.t600 Tryz.t600)) .e .e
noncomputable def Tryz.cT599 : Tr CT := .n (some (mkT Tryz.t599 Tryz.t599)) .e .e
noncomputable def Tryz.cT598 : Tr CT := .n (some (mkT Tryz.t598 Tryz.t598)) .e .e
noncomputable def Tryz.cT597 : Tr CT := .n (some (mkT Tryz.t597 Tryz.t597)) .e .e
noncomputable def Tryz.cT596 : Tr CT := .n (some (mkT Tryz.t596 Tryz.t3)) .e .e
noncomputable def Tryz.cT595 : Tr CT := .n (some (mkT Tryz.t595 Tryz.t595)) .e .e
noncomputable def Tryz.cT594 : Tr CT := .n (some (mkT Tryz.t594 Tryz.t594)) .e .e
noncomputable def Tryz.cT593 : Tr CT := .n (some (mkT Tryz.t593 Tryz.t593)) .e .e
noncomputable def Tryz.cT592 : Tr CT := .n (some (mkT Tryz.t592 Tryz.t592)) .e .e
noncomputable def Tryz.cT591 : Tr CT := .n (some (mkT Tryz.t591 Tryz.t591)) .e .e
noncomputable def Tryz.cT590 : Tr CT := .n (some (mkT Tryz.t590 Tryz.t589)) .e .e
noncomputable def Tryz.cT589 : Tr CT := .n (some (mkT Tryz.t589 Tryz.t589)) .e .e
noncomputable def Tryz.cT588 : Tr CT := .n (some (mkT Tryz.t588 Tryz.t588)) .e .e
noncomputable def Tryz.cT587 : Tr CT := .n (some (mkT Tryz.t587 Tryz.t587)) .e .e
noncomputable def Tryz.cT586 : Tr CT := .n (some (mkT Tryz.t586 Tryz.t586)) .e .e
noncomputable def Tryz.cT585 : Tr CT := .n (some (mkT Tryz.t585 Tryz.t585)) .e .e
noncomputable def Tryz.cT584 : Tr CT := .n (some (mkT Tryz.t584 Tryz.t584)) .e .e
noncomputable def Tryz.cT583 : Tr CT := .n (some (mkT Tryz.t583 Tryz.t583)) .e .e
noncomputable def Tryz.cT582 : Tr CT := .n (some (mkT Tryz.t582 Tryz.t582)) .e .e
noncomputable def Tryz.cT581 : Tr CT := .n (some (mkT Tryz.t581 Tryz.t580)) .e .e
noncomputable def Tryz.cT580 : Tr CT := .n (some (mkT Tryz.t580 Tryz.t580)) .e .e
noncomputable def Tryz.cT579 : Tr CT := .n (some (mkT Tryz.t579 Tryz.t579)) .e .e
noncomputable def Tryz.cT578 : Tr CT := .n (some (mkT Tryz.t578 Tryz.t578)) .e .e
noncomputable def Tryz.cT577 : Tr CT := .n (some (mkT Tryz.t577 Tryz.t577)) .e .e
noncomputable def Tryz.cT576 : Tr CT := .n (some (mkT Tryz.t576 Tryz.t576)) .e .e
noncomputable def Tryz.cT575 : Tr CT := .n (some (mkT Tryz.t575 Tryz.t575)) .e .e
noncomputable def Tryz.cT574 : Tr CT := .n (some (mkT Tryz.t574 Tryz.t574)) .e .e
noncomputable def Tryz.cT573 : Tr CT := .n (some (mkT Tryz.t573 Tryz.t573)) .e .e
noncomputable def Tryz.cT572 : Tr CT := .n (some (mkT Tryz.t572 Tryz.t572)) .e .e
noncomputable def Tryz.cT571 : Tr CT := .n (some (mkT Tryz.t571 Tryz.t571)) .e .e
noncomputable def Tryz.cT570 : Tr CT := .n (some (mkT Tryz.t570 Tryz.t570)) .e .e
noncomputable def Tryz.cT569 : Tr CT := .n (some (mkT Tryz.t569 Tryz.t569)) .e .e
noncomputable def Tryz.cT568 : Tr CT := .n (some (mkT Tryz.t568 Tryz.t567)) .e .e
noncomputable def Tryz.cT567 : Tr CT := .n (some (mkT Tryz.t567 Tryz.t567)) .e .e
noncomputable def Tryz.cT566 : Tr CT := .n (some (mkT Tryz.t566 Tryz.t566)) .e .e
noncomputable def Tryz.cT565 : Tr CT := .n (some (mkT Tryz.t565 Tryz.t564)) .e .e
noncomputable def Tryz.cT564 : Tr CT := .n (some (mkT Tryz.t564 Tryz.t564)) .e .e
noncomputable def Tryz.cT563 : Tr CT := .n (some (mkT Tryz.t563 Tryz.t563)) .e .e
noncomputable def Tryz.cT562 : Tr CT := .n (some (mkT Tryz.t562 Tryz.t562)) .e .e
noncomputable def Tryz.cT561 : Tr CT := .n (some (mkT Tryz.t561 Tryz.t561)) .e .e
noncomputable def Tryz.cT560 : Tr CT := .n (some (mkT Tryz.t560 Tryz.t560)) .e .e
noncomputable def Tryz.cT559 : Tr CT := .n (some (mkT Tryz.t559 Tryz.t558)) .e .e
noncomputable def Tryz.cT558 : Tr CT := .n (some (mkT Tryz.t558 Tryz.t558)) .e .e
noncomputable def Tryz.cT557 : Tr CT := .n (some (mkT Tryz.t557 Tryz.t556)) .e .e
noncomputable def Tryz.cT556 : Tr CT := .n (some (mkT Tryz.t556 Tryz.t556)) .e .e
noncomputable def Tryz.cT555 : Tr CT := .n (some (mkT Tryz.t555 Tryz.t555)) .e .e
noncomputable def Tryz.cT554 : Tr CT := .n (some (mkT Tryz.t554 Tryz.t554)) .e .e
noncomputable def Tryz.cT553 : Tr CT := .n (some (mkT Tryz.t553 Tryz.t553)) .e .e
noncomputable def Tryz.cT552 : Tr CT := .n (some (mkT Tryz.t552 Tryz.t552)) .e .e
noncomputable def Tryz.cT551 : Tr CT := .n (some (mkT Tryz.t551 Tryz.t551)) .e .e
noncomputable def Tryz.cT550 : Tr CT := .n (some (mkT Tryz.t550 Tryz.t550)) .e .e
noncomputable def Tryz.cT549 : Tr CT := .n (some (mkT Tryz.t549 Tryz.t549)) .e .e
noncomputable def Tryz.cT548 : Tr CT := .n (some (mkT Tryz.t548 Tryz.t548)) .e .e
noncomputable def Tryz.cT547 : Tr CT := .n (some (mkT Tryz.t547 Tryz.t547)) .e .e
noncomputable def Tryz.cT546 : Tr CT := .n (some (mkT Tryz.t546 Tryz.t546)) .e .e
noncomputable def Tryz.cT545 : Tr CT := .n (some (mkT Tryz.t545 Tryz.t545)) .e .e
noncomputable def Tryz.cT544 : Tr CT := .n (some (mkT Tryz.t544 Tryz.t544)) .e .e
noncomputable def Tryz.cT543 : Tr CT := .n (some (mkT Tryz.t543 Tryz.t543)) .e .e
noncomputable def Tryz.cT542 : Tr CT := .n (some (mkT Tryz.t542 Tryz.t542)) .e .e
noncomputable def Tryz.cT541 : Tr CT := .n (some (mkT Tryz.t541 Tryz.t541)) .e .e
noncomputable def Tryz.cT540 : Tr CT := .n (some (mkT Tryz.t540 Tryz.t540)) .e .e
noncomputable def Tryz.cT539 : Tr CT := .n (some (mkT Tryz.t539 Tryz.t539)) .e .e
noncomputable def Tryz.cT538 : Tr CT := .n (some (mkT Tryz.t538 Tryz.t538)) .e .e
noncomputable def Tryz.cT537 : Tr CT := .n (some (mkT Tryz.t537 Tryz.t537)) .e .e
noncomputable def Tryz.cT536 : Tr CT := .n (some (mkT Tryz.t536 Tryz.t536)) .e .e
noncomputable def Tryz.cT535 : Tr CT := .n (some (mkT Tryz.t535 Tryz.t534)) .e .e
noncomputable def Tryz.cT534 : Tr CT := .n (some (mkT Tryz.t534 Tryz.t534)) .e .e
noncomputable def Tryz.cT533 : Tr CT := .n (some (mkT Tryz.t533 Tryz.t533)) .e .e
noncomputable def Tryz.cT532 : Tr CT := .n (some (mkT Tryz.t532 Tryz.t532)) .e .e
noncomputable def Tryz.cT531 : Tr CT := .n (some (mkT Tryz.t531 Tryz.t531)) .e .e
noncomputable def Tryz.cT530 : Tr CT := .n (some (mkT Tryz.t530 Tryz.t530)) .e .e
noncomputable def Tryz.cT529 : Tr CT := .n (some (mkT Tryz.t529 Tryz.t529)) .e .e
noncomputable def Tryz.cT528 : Tr CT := .n (some (mkT Tryz.t528 Tryz.t528)) .e .e
noncomputable def Tryz.cT527 : Tr CT := .n (some (mkT Tryz.t527 Tryz.t527)) .e .e
noncomputable def Tryz.cT526 : Tr CT := .n (some (mkT Tryz.t526 Tryz.t526)) .e .e
noncomputable def Tryz.cT525 : Tr CT := .n (some (mkT Tryz.t525 Tryz.t525)) .e .e
noncomputable def Tryz.cT524 : Tr CT := .n (some (mkT Tryz.t524 Tryz.t524)) .e .e
noncomputable def Tryz.cT523 : Tr CT := .n (some (mkT Tryz.t523 Tryz.t523)) .e .e
noncomputable def Tryz.cT522 : Tr CT := .n (some (mkT Tryz.t522 Tryz.t522)) .e .e
noncomputable def Tryz.cT521 : Tr CT := .n (some (mkT Tryz.t521 Tryz.t521)) .e .e
noncomputable def Tryz.cT520 : Tr CT := .n (some (mkT Tryz.t520 Tryz.t520)) .e .e
noncomputable def Tryz.cT519 : Tr CT := .n (some (mkT Tryz.t519 Tryz.t519)) .e .e
noncomputable def Tryz.cT518 : Tr CT := .n (some (mkT Tryz.t518 Tryz.t518)) .e .e
noncomputable def Tryz.cT517 : Tr CT := .n (some (mkT Tryz.t517 Tryz.t517)) .e .e
noncomputable def Tryz.cT516 : Tr CT := .n (some (mkT Tryz.t516 Tryz.t516)) .e .e
noncomputable def Tryz.cT515 : Tr CT := .n (some (mkT Tryz.t515 Tryz.t515)) .e .e
noncomputable def Tryz.cT514 : Tr CT := .n (some (mkT Tryz.t514 Tryz.t514)) .e .e
noncomputable def Tryz.cT513 : Tr CT := .n (some (mkT Tryz.t513 Tryz.t513)) .e .e
noncomputable def Tryz.cT512 : Tr CT := .n (some (mkT Tryz.t512 Tryz.t512)) .e .e
noncomputable def Tryz.cT511 : Tr CT := .n (some (mkT Tryz.t511 Tryz.t510)) .e .e
noncomputable def Tryz.cT510 : Tr CT := .n (some (mkT Tryz.t510 Tryz.t510)) Tryz.cT766 .e
noncomputable def Tryz.cT509 : Tr CT := .n (some (mkT Tryz.t509 Tryz.t509)) Tryz.cT765 .e
noncomputable def Tryz.cT508 : Tr CT := .n (some (mkT Tryz.t508 Tryz.t508)) Tryz.cT764 .e
noncomputable def Tryz.cT507 : Tr CT := .n (some (mkT Tryz.t507 Tryz.t507)) Tryz.cT763 .e
noncomputable def Tryz.cT506 : Tr CT := .n (some (mkT Tryz.t506 Tryz.t506)) Tryz.cT762 .e
noncomputable def Tryz.cT505 : Tr CT := .n (some (mkT Tryz.t505 Tryz.t505)) Tryz.cT761 .e
noncomputable def Tryz.cT504 : Tr CT := .n (some (mkT Tryz.t504 Tryz.t504)) Tryz.cT760 .e
noncomputable def Tryz.cT503 : Tr CT := .n (some (mkT Tryz.t503 Tryz.t503)) Tryz.cT759 .e
noncomputable def Tryz.cT502 : Tr CT := .n (some (mkT Tryz.t502 Tryz.t502)) Tryz.cT758 .e
noncomputable def Tryz.cT501 : Tr CT := .n (some (mkT Tryz.t501 Tryz.t501)) Tryz.cT757 .e
noncomputable def Tryz.cT500 : Tr CT := .n (some (mkT Tryz.t500 Tryz.t500)) Tryz.cT756 .e
noncomputable def Tryz.cT499 : Tr CT := .n (some (mkT Tryz.t499 Tryz.t499)) Tryz.cT755 .e
noncomputable def Tryz.cT498 : Tr CT := .n (some (mkT Tryz.t498 Tryz.t498)) Tryz.cT754 .e
noncomputable def Tryz.cT497 : Tr CT := .n (some (mkT Tryz.t497 Tryz.t497)) Tryz.cT753 .e
noncomputable def Tryz.cT496 : Tr CT := .n (some (mkT Tryz.t496 Tryz.t496)) Tryz.cT752 .e
noncomputable def Tryz.cT495 : Tr CT := .n (some (mkT Tryz.t495 Tryz.t495)) Tryz.cT751 .e
noncomputable def Tryz.cT494 : Tr CT := .n (some (mkT Tryz.t494 Tryz.t494)) Tryz.cT750 .e
noncomputable def Tryz.cT493 : Tr CT := .n (some (mkT Tryz.t493 Tryz.t493)) Tryz.cT749 .e
noncomputable def Tryz.cT492 : Tr CT := .n (some (mkT Tryz.t492 Tryz.t492)) Tryz.cT748 .e
noncomputable def Tryz.cT491 : Tr CT := .n (some (mkT Tryz.t491 Tryz.t490)) Tryz.cT747 .e
noncomputable def Tryz.cT490 : Tr CT := .n (some (mkT Tryz.t490 Tryz.t490)) Tryz.cT746 .e
noncomputable def Tryz.cT489 : Tr CT := .n (some (mkT Tryz.t489 Tryz.t489)) Tryz.cT745 .e
noncomputable def Tryz.cT488 : Tr CT := .n (some (mkT Tryz.t488 Tryz.t488)) Tryz.cT744 .e
noncomputable def Tryz.cT487 : Tr CT := .n (some (mkT Tryz.t487 Tryz.t487)) Tryz.cT743 .e
noncomputable def Tryz.cT486 : Tr CT := .n (some (mkT Tryz.t486 Tryz.t486)) Tryz.cT742 .e
noncomputable def Tryz.cT485 : Tr CT := .n (some (mkT Tryz.t485 Tryz.t485)) Tryz.cT741 .e
noncomputable def Tryz.cT484 : Tr CT := .n (some (mkT Tryz.t484 Tryz.t484)) Tryz.cT740 .e
noncomputable def Tryz.cT483 : Tr CT := .n (some (mkT Tryz.t483 Tryz.t483)) Tryz.cT739 .e
noncomputable def Tryz.cT482 : Tr CT := .n (some (mkT Tryz.t482 Tryz.t482)) Tryz.cT738 .e
noncomputable def Tryz.cT481 : Tr CT := .n (some (mkT Tryz.t481 Tryz.t481)) Tryz.cT737 .e
noncomputable def Tryz.cT480 : Tr CT := .n (some (mkT Tryz.t480 Tryz.t480)) Tryz.cT736 .e
noncomputable def Tryz.cT479 : Tr CT := .n (some (mkT Tryz.t479 Tryz.t479)) Tryz.cT735 .e
noncomputable def Tryz.cT478 : Tr CT := .n (some (mkT Tryz.t478 Tryz.t478)) Tryz.cT734 .e
noncomputable def Tryz.cT477 : Tr CT := .n (some (mkT Tryz.t477 Tryz.t477)) Tryz.cT733 .e
noncomputable def Tryz.cT476 : Tr CT := .n (some (mkT Tryz.t476 Tryz.t476)) Tryz.cT732 .e
noncomputable def Tryz.cT475 : Tr CT := .n (some (mkT Tryz.t475 Tryz.t475)) Tryz.cT731 .e
noncomputable def Tryz.cT474 : Tr CT := .n (some (mkT Tryz.t474 Tryz.t474)) Tryz.cT730 .e
noncomputable def Tryz.cT473 : Tr CT := .n (some (mkT Tryz.t473 Tryz.t473)) Tryz.cT729 .e
noncomputable def Tryz.cT472 : Tr CT := .n (some (mkT Tryz.t472 Tryz.t472)) Tryz.cT728 .e
noncomputable def Tryz.cT471 : Tr CT := .n (some (mkT Tryz.t471 Tryz.t471)) Tryz.cT727 .e
noncomputable def Tryz.cT470 : Tr CT := .n (some (mkT Tryz.t470 Tryz.t469)) Tryz.cT726 .e
noncomputable def Tryz.cT469 : Tr CT := .n (some (mkT Tryz.t469 Tryz.t469)) Tryz.cT725 .e
noncomputable def Tryz.cT468 : Tr CT := .n (some (mkT Tryz.t468 Tryz.t468)) Tryz.cT724 .e
noncomputable def Tryz.cT467 : Tr CT := .n (some (mkT Tryz.t467 Tryz.t467)) Tryz.cT723 .e
noncomputable def Tryz.cT466 : Tr CT := .n (some (mkT Tryz.t466 Tryz.t466)) Tryz.cT722 .e
noncomputable def Tryz.cT465 : Tr CT := .n (some (mkT Tryz.t465 Tryz.t465)) Tryz.cT721 .e
noncomputable def Tryz.cT464 : Tr CT := .n (some (mkT Tryz.t464 Tryz.t464)) Tryz.cT720 .e
noncomputable def Tryz.cT463 : Tr CT := .n (some (mkT Tryz.t463 Tryz.t463)) Tryz.cT719 .e
noncomputable def Tryz.cT462 : Tr CT := .n (some (mkT Tryz.t462 Tryz.t462)) Tryz.cT718 .e
noncomputable def Tryz.cT461 : Tr CT := .n (some (mkT Tryz.t461 Tryz.t460)) Tryz.cT717 .e
noncomputable def Tryz.cT460 : Tr CT := .n (some (mkT Tryz.t460 Tryz.t460)) Tryz.cT716 .e
noncomputable def Tryz.cT459 : Tr CT := .n (some (mkT Tryz.t459 Tryz.t459)) Tryz.cT715 .e
noncomputable def Tryz.cT458 : Tr CT := .n (some (mkT Tryz.t458 Tryz.t458)) Tryz.cT714 .e
noncomputable def Tryz.cT457 : Tr CT := .n (some (mkT Tryz.t457 Tryz.t457)) Tryz.cT713 .e
noncomputable def Tryz.cT456 : Tr CT := .n (some (mkT Tryz.t456 Tryz.t456)) Tryz.cT712 .e
noncomputable def Tryz.cT455 : Tr CT := .n (some (mkT Tryz.t455 Tryz.t455)) Tryz.cT711 .e
noncomputable def Tryz.cT454 : Tr CT := .n (some (mkT Tryz.t454 Tryz.t454)) Tryz.cT710 .e
noncomputable def Tryz.cT453 : Tr CT := .n (some (mkT Tryz.t453 Tryz.t453)) Tryz.cT709 .e
noncomputable def Tryz.cT452 : Tr CT := .n (some (mkT Tryz.t452 Tryz.t451)) Tryz.cT708 .e
noncomputable def Tryz.cT451 : Tr CT := .n (some (mkT Tryz.t451 Tryz.t451)) Tryz.cT707 .e
noncomputable def Tryz.cT450 : Tr CT := .n (some (mkT Tryz.t450 Tryz.t449)) Tryz.cT706 .e
noncomputable def Tryz.cT449 : Tr CT := .n (some (mkT Tryz.t449 Tryz.t449)) Tryz.cT705 .e
noncomputable def Tryz.cT448 : Tr CT := .n (some (mkT Tryz.t448 Tryz.t447)) Tryz.cT704 .e
noncomputable def Tryz.cT447 : Tr CT := .n (some (mkT Tryz.t447 Tryz.t447)) Tryz.cT703 .e
noncomputable def Tryz.cT446 : Tr CT := .n (some (mkT Tryz.t446 Tryz.t446)) Tryz.cT702 .e
noncomputable def Tryz.cT445 : Tr CT := .n (some (mkT Tryz.t445 Tryz.t444)) Tryz.cT701 .e
noncomputable def Tryz.cT444 : Tr CT := .n (some (mkT Tryz.t444 Tryz.t444)) Tryz.cT700 .e
noncomputable def Tryz.cT443 : Tr CT := .n (some (mkT Tryz.t443 Tryz.t443)) Tryz.cT699 .e
noncomputable def Tryz.cT442 : Tr CT := .n (some (mkT Tryz.t442 Tryz.t442)) Tryz.cT698 .e
noncomputable def Tryz.cT441 : Tr CT := .n (some (mkT Tryz.t441 Tryz.t441)) Tryz.cT697 .e
noncomputable def Tryz.cT440 : Tr CT := .n (some (mkT Tryz.t440 Tryz.t440)) Tryz.cT696 .e
noncomputable def Tryz.cT439 : Tr CT := .n (some (mkT Tryz.t439 Tryz.t439)) Tryz.cT695 .e
noncomputable def Tryz.cT438 : Tr CT := .n (some (mkT Tryz.t438 Tryz.t438)) Tryz.cT694 .e
noncomputable def Tryz.cT437 : Tr CT := .n (some (mkT Tryz.t437 Tryz.t169)) Tryz.cT693 .e
noncomputable def Tryz.cT436 : Tr CT := .n (some (mkT Tryz.t436 Tryz.t436)) Tryz.cT692 .e
noncomputable def Tryz.cT435 : Tr CT := .n (some (mkT Tryz.t435 Tryz.t435)) Tryz.cT691 .e
noncomputable def Tryz.cT434 : Tr CT := .n (some (mkT Tryz.t434 Tryz.t434)) Tryz.cT690 .e
noncomputable def Tryz.cT433 : Tr CT := .n (some (mkT Tryz.t433 Tryz.t433)) Tryz.cT689 .e
noncomputable def Tryz.cT432 : Tr CT := .n (some (mkT Tryz.t432 Tryz.t432)) Tryz.cT688 .e
noncomputable def Tryz.cT431 : Tr CT := .n (some (mkT Tryz.t431 Tryz.t431)) Tryz.cT687 .e
noncomputable def Tryz.cT430 : Tr CT := .n (some (mkT Tryz.t430 Tryz.t430)) Tryz.cT686 .e
noncomputable def Tryz.cT429 : Tr CT := .n (some (mkT Tryz.t429 Tryz.t429)) Tryz.cT685 .e
noncomputable def Tryz.cT428 : Tr CT := .n (some (mkT Tryz.t428 Tryz.t428)) Tryz.cT684 .e
noncomputable def Tryz.cT427 : Tr CT := .n (some (mkT Tryz.t427 Tryz.t427)) Tryz.cT683 .e
noncomputable def Tryz.cT426 : Tr CT := .n (some (mkT Tryz.t426 Tryz.t426)) Tryz.cT682 .e
noncomputable def Tryz.cT425 : Tr CT := .n (some (mkT Tryz.t425 Tryz.t425)) Tryz.cT681 .e
noncomputable def Tryz.cT424 : Tr CT := .n (some (mkT Tryz.t424 Tryz.t424)) Tryz.cT680 .e
noncomputable def Tryz.cT423 : Tr CT := .n (some (mkT Tryz.t423 Tryz.t423)) Tryz.cT679 .e
noncomputable def Tryz.cT422 : Tr CT := .n (some (mkT Tryz.t422 Tryz.t422)) Tryz.cT678 .e
noncomputable def Tryz.cT421 : Tr CT := .n (some (mkT Tryz.t421 Tryz.t421)) Tryz.cT677 .e
noncomputable def Tryz.cT420 : Tr CT := .n (some (mkT Tryz.t420 Tryz.t420)) Tryz.cT676 .e
noncomputable def Tryz.cT419 : Tr CT := .n (some (mkT Tryz.t419 Tryz.t419)) Tryz.cT675 .e
noncomputable def Tryz.cT418 : Tr CT := .n (some (mkT Tryz.t418 Tryz.t418)) Tryz.cT674 .e
noncomputable def Tryz.cT417 : Tr CT := .n (some (mkT Tryz.t417 Tryz.t417)) Tryz.cT673 .e
noncomputable def Tryz.cT416 : Tr CT := .n (some (mkT Tryz.t416 Tryz.t416)) Tryz.cT672 .e
noncomputable def Tryz.cT415 : Tr CT := .n (some (mkT Tryz.t415 Tryz.t415)) Tryz.cT671 .e
noncomputable def Tryz.cT414 : Tr CT := .n (some (mkT Tryz.t414 Tryz.t414)) Tryz.cT670 .e
noncomputable def Tryz.cT413 : Tr CT := .n (some (mkT Tryz.t413 Tryz.t413)) Tryz.cT669 .e
noncomputable def Tryz.cT412 : Tr CT := .n (some (mkT Tryz.t412 Tryz.t412)) Tryz.cT668 .e
noncomputable def Tryz.cT411 : Tr CT := .n (some (mkT Tryz.t411 Tryz.t411)) Tryz.cT667 .e
noncomputable def Tryz.cT410 : Tr CT := .n (some (mkT Tryz.t410 Tryz.t410)) Tryz.cT666 .e
noncomputable def Tryz.cT409 : Tr CT := .n (some (mkT Tryz.t409 Tryz.t409)) Tryz.cT665 .e
noncomputable def Tryz.cT408 : Tr CT := .n (some (mkT Tryz.t408 Tryz.t407)) Tryz.cT664 .e
noncomputable def Tryz.cT407 : Tr CT := .n (some (mkT Tryz.t407 Tryz.t407)) Tryz.cT663 .e
noncomputable def Tryz.cT406 : Tr CT := .n (some (mkT Tryz.t406 Tryz.t406)) Tryz.cT662 .e
noncomputable def Tryz.cT405 : Tr CT := .n (some (mkT Tryz.t405 Tryz.t405)) Tryz.cT661 .e
noncomputable def Tryz.cT404 : Tr CT := .n (some (mkT Tryz.t404 Tryz.t404)) Tryz.cT660 .e
noncomputable def Tryz.cT403 : Tr CT := .n (some (mkT Tryz.t403 Tryz.t403)) Tryz.cT659 .e
noncomputable def Tryz.cT402 : Tr CT := .n (some (mkT Tryz.t402 Tryz.t401)) Tryz.cT658 .e
noncomputable def Tryz.cT401 : Tr CT := .n (some (mkT Tryz.t401 Tryz.t401)) Tryz.cT657 .e
noncomputable def Tryz.cT400 : Tr CT := .n (some (mkT Tryz.t400 Tryz.t400)) Tryz.cT656 .e
noncomputable def Tryz.cT399 : Tr CT := .n (some (mkT Tryz.t399 Tryz.t398)) Tryz.cT655 .e
noncomputable def Tryz.cT398 : Tr CT := .n (some (mkT Tryz.t398 Tryz.t398)) Tryz.cT654 .e
noncomputable def Tryz.cT397 : Tr CT := .n (some (mkT Tryz.t397 Tryz.t397)) Tryz.cT653 .e
noncomputable def Tryz.cT396 : Tr CT := .n (some (mkT Tryz.t396 Tryz.t396)) Tryz.cT652 .e
noncomputable def Tryz.cT395 : Tr CT := .n (some (mkT Tryz.t395 Tryz.t394)) Tryz.cT651 .e
noncomputable def Tryz.cT394 : Tr CT := .n (some (mkT Tryz.t394 Tryz.t394)) Tryz.cT650 .e
noncomputable def Tryz.cT393 : Tr CT := .n (some (mkT Tryz.t393 Tryz.t393)) Tryz.cT649 .e
noncomputable def Tryz.cT392 : Tr CT := .n (some (mkT Tryz.t392 Tryz.t392)) Tryz.cT648 .e
noncomputable def Tryz.cT391 : Tr CT := .n (some (mkT Tryz.t391 Tryz.t391)) Tryz.cT647 .e
noncomputable def Tryz.cT390 : Tr CT := .n (some (mkT Tryz.t390 Tryz.t390)) Tryz.cT646 .e
noncomputable def Tryz.cT389 : Tr CT := .n (some (mkT Tryz.t389 Tryz.t389)) Tryz.cT645 .e
noncomputable def Tryz.cT388 : Tr CT := .n (some (mkT Tryz.t388 Tryz.t388)) Tryz.cT644 .e
noncomputable def Tryz.cT387 : Tr CT := .n (some (mkT Tryz.t387 Tryz.t387)) Tryz.cT643 .e
noncomputable def Tryz.cT386 : Tr CT := .n (some (mkT Tryz.t386 Tryz.t386)) Tryz.cT642 .e
noncomputable def Tryz.cT385 : Tr CT := .n (some (mkT Tryz.t385 Tryz.t385)) Tryz.cT641 .e
noncomputable def Tryz.cT384 : Tr CT := .n (some (mkT Tryz.t384 Tryz.t129)) Tryz.cT640 .e
noncomputable def Tryz.cT383 : Tr CT := .n (some (mkT Tryz.t383 Tryz.t382)) Tryz.cT639 .e
noncomputable def Tryz.cT382 : Tr CT := .n (some (mkT Tryz.t382 Tryz.t382)) Tryz.cT638 .e
noncomputable def Tryz.cT381 : Tr CT := .n (some (mkT Tryz.t381 Tryz.t381)) Tryz.cT637 .e
noncomputable def Tryz.cT380 : Tr CT := .n (some (mkT Tryz.t380 Tryz.t380)) Tryz.cT636 .e
noncomputable def Tryz.cT379 : Tr CT := .n (some (mkT Tryz.t379 Tryz.t379)) Tryz.cT635 .e
noncomputable def Tryz.cT378 : Tr CT := .n (some (mkT Tryz.t378 Tryz.t378)) Tryz.cT634 .e
noncomputable def Tryz.cT377 : Tr CT := .n (some (mkT Tryz.t377 Tryz.t377)) Tryz.cT633 .e
noncomputable def Tryz.cT376 : Tr CT := .n (some (mkT Tryz.t376 Tryz.t376)) Tryz.cT632 .e
noncomputable def Tryz.cT375 : Tr CT := .n (some (mkT Tryz.t375 Tryz.t375)) Tryz.cT631 .e
noncomputable def Tryz.cT374 : Tr CT := .n (some (mkT Tryz.t374 Tryz.t374)) Tryz.cT630 .e
noncomputable def Tryz.cT373 : Tr CT := .n (some (mkT Tryz.t373 Tryz.t373)) Tryz.cT629 .e
noncomputable def Tryz.cT372 : Tr CT := .n (some (mkT Tryz.t372 Tryz.t372)) Tryz.cT628 .e
noncomputable def Tryz.cT371 : Tr CT := .n (some (mkT Tryz.t371 Tryz.t371)) Tryz.cT627 .e
noncomputable def Tryz.cT370 : Tr CT := .n (some (mkT Tryz.t370 Tryz.t370)) Tryz.cT626 .e
noncomputable def Tryz.cT369 : Tr CT := .n (some (mkT Tryz.t369 Tryz.t369)) Tryz.cT625 .e
noncomputable def Tryz.cT368 : Tr CT := .n (some (mkT Tryz.t368 Tryz.t368)) Tryz.cT624 .e
noncomputable def Tryz.cT367 : Tr CT := .n (some (mkT Tryz.t367 Tryz.t367)) Tryz.cT623 .e
noncomputable def Tryz.cT366 : Tr CT := .n (some (mkT Tryz.t366 Tryz.t366)) Tryz.cT622 .e
noncomputable def Tryz.cT365 : Tr CT := .n (some (mkT Tryz.t365 Tryz.t365)) Tryz.cT621 .e
noncomputable def Tryz.cT364 : Tr CT := .n (some (mkT Tryz.t364 Tryz.t364)) Tryz.cT620 .e
noncomputable def Tryz.cT363 : Tr CT := .n (some (mkT Tryz.t363 Tryz.t363)) Tryz.cT619 .e
noncomputable def Tryz.cT362 : Tr CT := .n (some (mkT Tryz.t362 Tryz.t362)) Tryz.cT618 .e
noncomputable def Tryz.cT361 : Tr CT := .n (some (mkT Tryz.t361 Tryz.t361)) Tryz.cT617 .e
noncomputable def Tryz.cT360 : Tr CT := .n (some (mkT Tryz.t360 Tryz.t360)) Tryz.cT616 .e
noncomputable def Tryz.cT359 : Tr CT := .n (some (mkT Tryz.t359 Tryz.t359)) Tryz.cT615 .e
noncomputable def Tryz.cT358 : Tr CT := .n (some (mkT Tryz.t358 Tryz.t358)) Tryz.cT614 .e
noncomputable def Tryz.cT357 : Tr CT := .n (some (mkT Tryz.t357 Tryz.t357)) Tryz.cT613 .e
noncomputable def Tryz.cT356 : Tr CT := .n (some (mkT Tryz.t356 Tryz.t356)) Tryz.cT612 .e
noncomputable def Tryz.cT355 : Tr CT := .n (some (mkT Tryz.t355 Tryz.t355)) Tryz.cT611 .e
noncomputable def Tryz.cT354 : Tr CT := .n (some (mkT Tryz.t354 Tryz.t354)) Tryz.cT610 .e
noncomputable def Tryz.cT353 : Tr CT := .n (some (mkT Tryz.t353 Tryz.t353)) Tryz.cT609 .e
noncomputable def Tryz.cT352 : Tr CT := .n (some (mkT Tryz.t352 Tryz.t352)) Tryz.cT608 .e
noncomputable def Tryz.cT351 : Tr CT := .n (some (mkT Tryz.t351 Tryz.t351)) Tryz.cT607 .e
noncomputable def Tryz.cT350 : Tr CT := .n (some (mkT Tryz.t350 Tryz.t349)) Tryz.cT606 .e
noncomputable def Tryz.cT349 : Tr CT := .n (some (mkT Tryz.t349 Tryz.t349)) Tryz.cT605 .e
noncomputable def Tryz.cT348 : Tr CT := .n (some (mkT Tryz.t348 Tryz.t348)) Tryz.cT604 .e
noncomputable def Tryz.cT347 : Tr CT := .n (some (mkT Tryz.t347 Tryz.t347)) Tryz.cT603 .e
noncomputable def Tryz.cT346 : Tr CT := .n (some (mkT Tryz.t346 Tryz.t346)) Tryz.cT602 .e
noncomputable def Tryz.cT345 : Tr CT := .n (some (mkT Tryz.t345 Tryz.t345)) Tryz.cT601 .e
noncomputable def Tryz.cT344 : Tr CT := .n (some (mkT Tryz.t344 Tryz.t343)) Tryz.cT600 .e
noncomputable def Tryz.cT343 : Tr CT := .n (some (mkT Tryz.t343 Tryz.t343)) Tryz.cT599 .e
noncomputable def Tryz.cT342 : Tr CT := .n (some (mkT Tryz.t342 Tryz.t342)) Tryz.cT598 .e
noncomputable def Tryz.cT341 : Tr CT := .n (some (mkT Tryz.t341 Tryz.t341)) Tryz.cT597 .e
noncomputable def Tryz.cT340 : Tr CT := .n (some (mkT Tryz.t340 Tryz.t340)) Tryz.cT596 .e
noncomputable def Tryz.cT339 : Tr CT := .n (some (mkT Tryz.t339 Tryz.t339)) Tryz.cT595 .e
noncomputable def Tryz.cT338 : Tr CT := .n (some (mkT Tryz.t338 Tryz.t337)) Tryz.cT594 .e
noncomputable def Tryz.cT337 : Tr CT := .n (some (mkT Tryz.t337 Tryz.t337)) Tryz.cT593 .e
noncomputable def Tryz.cT336 : Tr CT := .n (some (mkT Tryz.t336 Tryz.t336)) Tryz.cT592 .e
noncomputable def Tryz.cT335 : Tr CT := .n (some (mkT Tryz.t335 Tryz.t335)) Tryz.cT591 .e
noncomputable def Tryz.cT334 : Tr CT := .n (some (mkT Tryz.t334 Tryz.t334)) Tryz.cT590 .e
noncomputable def Tryz.cT333 : Tr CT := .n (some (mkT Tryz.t333 Tryz.t333)) Tryz.cT589 .e
noncomputable def Tryz.cT332 : Tr CT := .n (some (mkT Tryz.t332 Tryz.t332)) Tryz.cT588 .e
noncomputable def Tryz.cT331 : Tr CT := .n (some (mkT Tryz.t331 Tryz.t331)) Tryz.cT587 .e
noncomputable def Tryz.cT330 : Tr CT := .n (some (mkT Tryz.t330 Tryz.t330)) Tryz.cT586 .e
noncomputable def Tryz.cT329 : Tr CT := .n (some (mkT Tryz.t329 Tryz.t329)) Tryz.cT585 .e
noncomputable def Tryz.cT328 : Tr CT := .n (some (mkT Tryz.t328 Tryz.t328)) Tryz.cT584 .e
noncomputable def Tryz.cT327 : Tr CT := .n (some (mkT Tryz.t327 Tryz.t327)) Tryz.cT583 .e
noncomputable def Tryz.cT326 : Tr CT := .n (some (mkT Tryz.t326 Tryz.t325)) Tryz.cT582 .e
noncomputable def Tryz.cT325 : Tr CT := .n (some (mkT Tryz.t325 Tryz.t325)) Tryz.cT581 .e
noncomputable def Tryz.cT324 : Tr CT := .n (some (mkT Tryz.t324 Tryz.t324)) Tryz.cT580 .e
noncomputable def Tryz.cT323 : Tr CT := .n (some (mkT Tryz.t323 Tryz.t323)) Tryz.cT579 .e
noncomputable def Tryz.cT322 : Tr CT := .n (some (mkT Tryz.t322 Tryz.t322)) Tryz.cT578 .e
noncomputable def Tryz.cT321 : Tr CT := .n (some (mkT Tryz.t321 Tryz.t321)) Tryz.cT577 .e
noncomputable def Tryz.cT320 : Tr CT := .n (some (mkT Tryz.t320 Tryz.t319)) Tryz.cT576 .e
noncomputable def Tryz.cT319 : Tr CT := .n (some (mkT Tryz.t319 Tryz.t319)) Tryz.cT575 .e
noncomputable def Tryz.cT318 : Tr CT := .n (some (mkT Tryz.t318 Tryz.t317)) Tryz.cT574 .e
noncomputable def Tryz.cT317 : Tr CT := .n (some (mkT Tryz.t317 Tryz.t317)) Tryz.cT573 .e
noncomputable def Tryz.cT316 : Tr CT := .n (some (mkT Tryz.t316 Tryz.t316)) Tryz.cT572 .e
noncomputable def Tryz.cT315 : Tr CT := .n (some (mkT Tryz.t315 Tryz.t315)) Tryz.cT571 .e
noncomputable def Tryz.cT314 : Tr CT := .n (some (mkT Tryz.t314 Tryz.t314)) Tryz.cT570 .e
noncomputable def Tryz.cT313 : Tr CT := .n (some (mkT Tryz.t313 Tryz.t313)) Tryz.cT569 .e
noncomputable def Tryz.cT312 : Tr CT := .n (some (mkT Tryz.t312 Tryz.t312)) Tryz.cT568 .e
noncomputable def Tryz.cT311 : Tr CT := .n (some (mkT Tryz.t311 Tryz.t311)) Tryz.cT567 .e
noncomputable def Tryz.cT310 : Tr CT := .n (some (mkT Tryz.t310 Tryz.t310)) Tryz.cT566 .e
noncomputable def Tryz.cT309 : Tr CT := .n (some (mkT Tryz.t309 Tryz.t308)) Tryz.cT565 .e
noncomputable def Tryz.cT308 : Tr CT := .n (some (mkT Tryz.t308 Tryz.t308)) Tryz.cT564 .e
noncomputable def Tryz.cT307 : Tr CT := .n (some (mkT Tryz.t307 Tryz.t306)) Tryz.cT563 .e
noncomputable def Tryz.cT306 : Tr CT := .n (some (mkT Tryz.t306 Tryz.t306)) Tryz.cT562 .e
noncomputable def Tryz.cT305 : Tr CT := .n (some (mkT Tryz.t305 Tryz.t304)) Tryz.cT561 .e
noncomputable def Tryz.cT304 : Tr CT := .n (some (mkT Tryz.t304 Tryz.t304)) Tryz.cT560 .e
noncomputable def Tryz.cT303 : Tr CT := .n (some (mkT Tryz.t303 Tryz.t303)) Tryz.cT559 .e
noncomputable def Tryz.cT302 : Tr CT := .n (some (mkT Tryz.t302 Tryz.t302)) Tryz.cT558 .e
noncomputable def Tryz.cT301 : Tr CT := .n (some (mkT Tryz.t301 Tryz.t301)) Tryz.cT557 .e
noncomputable def Tryz.cT300 : Tr CT := .n (some (mkT Tryz.t300 Tryz.t300)) Tryz.cT556 .e
noncomputable def Tryz.cT299 : Tr CT := .n (some (mkT Tryz.t299 Tryz.t299)) Tryz.cT555 .e
noncomputable def Tryz.cT298 : Tr CT := .n (some (mkT Tryz.t298 Tryz.t298)) Tryz.cT554 .e
noncomputable def Tryz.cT297 : Tr CT := .n (some (mkT Tryz.t297 Tryz.t297)) Tryz.cT553 .e
noncomputable def Tryz.cT296 : Tr CT := .n (some (mkT Tryz.t296 Tryz.t295)) Tryz.cT552 .e
noncomputable def Tryz.cT295 : Tr CT := .n (some (mkT Tryz.t295 Tryz.t295)) Tryz.cT551 .e
noncomputable def Tryz.cT294 : Tr CT := .n (some (mkT Tryz.t294 Tryz.t294)) Tryz.cT550 .e
noncomputable def Tryz.cT293 : Tr CT := .n (some (mkT Tryz.t293 Tryz.t292)) Tryz.cT549 .e
noncomputable def Tryz.cT292 : Tr CT := .n (some (mkT Tryz.t292 Tryz.t292)) Tryz.cT548 .e
noncomputable def Tryz.cT291 : Tr CT := .n (some (mkT Tryz.t291 Tryz.t290)) Tryz.cT547 .e
noncomputable def Tryz.cT290 : Tr CT := .n (some (mkT Tryz.t290 Tryz.t290)) Tryz.cT546 .e
noncomputable def Tryz.cT289 : Tr CT := .n (some (mkT Tryz.t289 Tryz.t289)) Tryz.cT545 .e
noncomputable def Tryz.cT288 : Tr CT := .n (some (mkT Tryz.t288 Tryz.t288)) Tryz.cT544 .e
noncomputable def Tryz.cT287 : Tr CT := .n (some (mkT Tryz.t287 Tryz.t287)) Tryz.cT543 .e
noncomputable def Tryz.cT286 : Tr CT := .n (some (mkT Tryz.t286 Tryz.t286)) Tryz.cT542 .e
noncomputable def Tryz.cT285 : Tr CT := .n (some (mkT Tryz.t285 Tryz.t285)) Tryz.cT541 .e
noncomputable def Tryz.cT284 : Tr CT := .n (some (mkT Tryz.t284 Tryz.t284)) Tryz.cT540 .e
noncomputable def Tryz.cT283 : Tr CT := .n (some (mkT Tryz.t283 Tryz.t283)) Tryz.cT539 .e
noncomputable def Tryz.cT282 : Tr CT := .n (some (mkT Tryz.t282 Tryz.t282)) Tryz.cT538 .e
noncomputable def Tryz.cT281 : Tr CT := .n (some (mkT Tryz.t281 Tryz.t281)) Tryz.cT537 .e
noncomputable def Tryz.cT280 : Tr CT := .n (some (mkT Tryz.t280 Tryz.t280)) Tryz.cT536 .e
noncomputable def Tryz.cT279 : Tr CT := .n (some (mkT Tryz.t279 Tryz.t279)) Tryz.cT535 .e
noncomputable def Tryz.cT278 : Tr CT := .n (some (mkT Tryz.t278 Tryz.t277)) Tryz.cT534 .e
noncomputable def Tryz.cT277 : Tr CT := .n (some (mkT Tryz.t277 Tryz.t277)) Tryz.cT533 .e
noncomputable def Tryz.cT276 : Tr CT := .n (some (mkT Tryz.t276 Tryz.t276)) Tryz.cT532 .e
noncomputable def Tryz.cT275 : Tr CT := .n (some (mkT Tryz.t275 Tryz.t275)) Tryz.cT531 .e
noncomputable def Tryz.cT274 : Tr CT := .n (some (mkT Tryz.t274 Tryz.t274)) Tryz.cT530 .e
noncomputable def Tryz.cT273 : Tr CT := .n (some (mkT Tryz.t273 Tryz.t272)) Tryz.cT529 .e
noncomputable def Tryz.cT272 : Tr CT := .n (some (mkT Tryz.t272 Tryz.t272)) Tryz.cT528 .e
noncomputable def Tryz.cT271 : Tr CT := .n (some (mkT Tryz.t271 Tryz.t271)) Tryz.cT527 .e
noncomputable def Tryz.cT270 : Tr CT := .n (some (mkT Tryz.t270 Tryz.t270)) Tryz.cT526 .e
noncomputable def Tryz.cT269 : Tr CT := .n (some (mkT Tryz.t269 Tryz.t269)) Tryz.cT525 .e
noncomputable def Tryz.cT268 : Tr CT := .n (some (mkT Tryz.t268 Tryz.t268)) Tryz.cT524 Tryz.cT780
noncomputable def Tryz.cT267 : Tr CT := .n (some (mkT Tryz.t267 Tryz.t267)) Tryz.cT523 Tryz.cT779
noncomputable def Tryz.cT266 : Tr CT := .n (some (mkT Tryz.t266 Tryz.t266)) Tryz.cT522 Tryz.cT778
noncomputable def Tryz.cT265 : Tr CT := .n (some (mkT Tryz.t265 Tryz.t265)) Tryz.cT521 Tryz.cT777
noncomputable def Tryz.cT264 : Tr CT := .n (some (mkT Tryz.t264 Tryz.t264)) Tryz.cT520 Tryz.cT776
noncomputable def Tryz.cT263 : Tr CT := .n (some (mkT Tryz.t263 Tryz.t263)) Tryz.cT519 Tryz.cT775
noncomputable def Tryz.cT262 : Tr CT := .n (some (mkT Tryz.t262 Tryz.t262)) Tryz.cT518 Tryz.cT774
noncomputable def Tryz.cT261 : Tr CT := .n (some (mkT Tryz.t261 Tryz.t261)) Tryz.cT517 Tryz.cT773
noncomputable def Tryz.cT260 : Tr CT := .n (some (mkT Tryz.t260 Tryz.t260)) Tryz.cT516 Tryz.cT772
noncomputable def Tryz.cT259 : Tr CT := .n (some (mkT Tryz.t259 Tryz.t259)) Tryz.cT515 Tryz.cT771
noncomputable def Tryz.cT258 : Tr CT := .n (some (mkT Tryz.t258 Tryz.t258)) Tryz.cT514 Tryz.cT770
noncomputable def Tryz.cT257 : Tr CT := .n (some (mkT Tryz.t257 Tryz.t257)) Tryz.cT513 Tryz.cT769
noncomputable def Tryz.cT256 : Tr CT := .n (some (mkT Tryz.t256 Tryz.t256)) Tryz.cT512 Tryz.cT768
noncomputable def Tryz.cT255 : Tr CT := .n (some (mkT Tryz.t255 Tryz.t254)) Tryz.cT511 Tryz.cT767
noncomputable def Tryz.cT254 : Tr CT := .n (some (mkT Tryz.t254 Tryz.t254)) Tryz.cT382 Tryz.cT510
noncomputable def Tryz.cT253 : Tr CT := .n (some (mkT Tryz.t253 Tryz.t252)) Tryz.cT381 Tryz.cT509
noncomputable def Tryz.cT252 : Tr CT := .n (some (mkT Tryz.t252 Tryz.t252)) Tryz.cT380 Tryz.cT508
noncomputable def Tryz.cT251 : Tr CT := .n (some (mkT Tryz.t251 Tryz.t250)) Tryz.cT379 Tryz.cT507
noncomputable def Tryz.cT250 : Tr CT := .n (some (mkT Tryz.t250 Tryz.t250)) Tryz.cT378 Tryz.cT506
noncomputable def Tryz.cT249 : Tr CT := .n (some (mkT Tryz.t249 Tryz.t249)) Tryz.cT377 Tryz.cT505
noncomputable def Tryz.cT248 : Tr CT := .n (some (mkT Tryz.t248 Tryz.t247)) Tryz.cT376 Tryz.cT504
noncomputable def Tryz.cT247 : Tr CT := .n (some (mkT Tryz.t247 Tryz.t247)) Tryz.cT375 Tryz.cT503
noncomputable def Tryz.cT246 : Tr CT := .n (some (mkT Tryz.t246 Tryz.t245)) Tryz.cT374 Tryz.cT502
noncomputable def Tryz.cT245 : Tr CT := .n (some (mkT Tryz.t245 Tryz.t245)) Tryz.cT373 Tryz.cT501
noncomputable def Tryz.cT244 : Tr CT := .n (some (mkT Tryz.t244 Tryz.t244)) Tryz.cT372 Tryz.cT500
noncomputable def Tryz.cT243 : Tr CT := .n (some (mkT Tryz.t243 Tryz.t242)) Tryz.cT371 Tryz.cT499
noncomputable def Tryz.cT242 : Tr CT := .n (some (mkT Tryz.t242 Tryz.t242)) Tryz.cT370 Tryz.cT498
noncomputable def Tryz.cT241 : Tr CT := .n (some (mkT Tryz.t241 Tryz.t241)) Tryz.cT369 Tryz.cT497
noncomputable def Tryz.cT240 : Tr CT := .n (some (mkT Tryz.t240 Tryz.t240)) Tryz.cT368 Tryz.cT496
noncomputable def Tryz.cT239 : Tr CT := .n (some (mkT Tryz.t239 Tryz.t239)) Tryz.cT367 Tryz.cT495
noncomputable def Tryz.cT238 : Tr CT := .n (some (mkT Tryz.t238 Tryz.t238)) Tryz.cT366 Tryz.cT494
noncomputable def Tryz.cT237 : Tr CT := .n (some (mkT Tryz.t237 Tryz.t237)) Tryz.cT365 Tryz.cT493
noncomputable def Tryz.cT236 : Tr CT := .n (some (mkT Tryz.t236 Tryz.t236)) Tryz.cT364 Tryz.cT492
noncomputable def Tryz.cT235 : Tr CT := .n (some (mkT Tryz.t235 Tryz.t235)) Tryz.cT363 Tryz.cT491
noncomputable def Tryz.cT234 : Tr CT := .n (some (mkT Tryz.t234 Tryz.t234)) Tryz.cT362 Tryz.cT490
noncomputable def Tryz.cT233 : Tr CT := .n (some (mkT Tryz.t233 Tryz.t233)) Tryz.cT361 Tryz.cT489
noncomputable def Tryz.cT232 : Tr CT := .n (some (mkT Tryz.t232 Tryz.t232)) Tryz.cT360 Tryz.cT488
noncomputable def Tryz.cT231 : Tr CT := .n (some (mkT Tryz.t231 Tryz.t231)) Tryz.cT359 Tryz.cT487
noncomputable def Tryz.cT230 : Tr CT := .n (some (mkT Tryz.t230 Tryz.t230)) Tryz.cT358 Tryz.cT486
noncomputable def Tryz.cT229 : Tr CT := .n (some (mkT Tryz.t229 Tryz.t229)) Tryz.cT357 Tryz.cT485
noncomputable def Tryz.cT228 : Tr CT := .n (some (mkT Tryz.t228 Tryz.t228)) Tryz.cT356 Tryz.cT484
noncomputable def Tryz.cT227 : Tr CT := .n (some (mkT Tryz.t227 Tryz.t227)) Tryz.cT355 Tryz.cT483
noncomputable def Tryz.cT226 : Tr CT := .n (some (mkT Tryz.t226 Tryz.t226)) Tryz.cT354 Tryz.cT482
noncomputable def Tryz.cT225 : Tr CT := .n (some (mkT Tryz.t225 Tryz.t225)) Tryz.cT353 Tryz.cT481
noncomputable def Tryz.cT224 : Tr CT := .n (some (mkT Tryz.t224 Tryz.t224)) Tryz.cT352 Tryz.cT480
noncomputable def Tryz.cT223 : Tr CT := .n (some (mkT Tryz.t223 Tryz.t223)) Tryz.cT351 Tryz.cT479
noncomputable def Tryz.cT222 : Tr CT := .n (some (mkT Tryz.t222 Tryz.t222)) Tryz.cT350 Tryz.cT478
noncomputable def Tryz.cT221 : Tr CT := .n (some (mkT Tryz.t221 Tryz.t221)) Tryz.cT349 Tryz.cT477
noncomputable def Tryz.cT220 : Tr CT := .n (some (mkT Tryz.t220 Tryz.t220)) Tryz.cT348 Tryz.cT476
noncomputable def Tryz.cT219 : Tr CT := .n (some (mkT Tryz.t219 Tryz.t219)) Tryz.cT347 Tryz.cT475
noncomputable def Tryz.cT218 : Tr CT := .n (some (mkT Tryz.t218 Tryz.t218)) Tryz.cT346 Tryz.cT474
noncomputable def Tryz.cT217 : Tr CT := .n (some (mkT Tryz.t217 Tryz.t217)) Tryz.cT345 Tryz.cT473
noncomputable def Tryz.cT216 : Tr CT := .n (some (mkT Tryz.t216 Tryz.t216)) Tryz.cT344 Tryz.cT472
noncomputable def Tryz.cT215 : Tr CT := .n (some (mkT Tryz.t215 Tryz.t215)) Tryz.cT343 Tryz.cT471
noncomputable def Tryz.cT214 : Tr CT := .n (some (mkT Tryz.t214 Tryz.t214)) Tryz.cT342 Tryz.cT470
noncomputable def Tryz.cT213 : Tr CT := .n (some (mkT Tryz.t213 Tryz.t213)) Tryz.cT341 Tryz.cT469
noncomputable def Tryz.cT212 : Tr CT := .n (some (mkT Tryz.t212 Tryz.t212)) Tryz.cT340 Tryz.cT468
noncomputable def Tryz.cT211 : Tr CT := .n (some (mkT Tryz.t211 Tryz.t211)) Tryz.cT339 Tryz.cT467
noncomputable def Tryz.cT210 : Tr CT := .n (some (mkT Tryz.t210 Tryz.t210)) Tryz.cT338 Tryz.cT466
noncomputable def Tryz.cT209 : Tr CT := .n (some (mkT Tryz.t209 Tryz.t209)) Tryz.cT337 Tryz.cT465
noncomputable def Tryz.cT208 : Tr CT := .n (some (mkT Tryz.t208 Tryz.t208)) Tryz.cT336 Tryz.cT464
noncomputable def Tryz.cT207 : Tr CT := .n (some (mkT Tryz.t207 Tryz.t206)) Tryz.cT335 Tryz.cT463
noncomputable def Tryz.cT206 : Tr CT := .n (some (mkT Tryz.t206 Tryz.t206)) Tryz.cT334 Tryz.cT462
noncomputable def Tryz.cT205 : Tr CT := .n (some (mkT Tryz.t205 Tryz.t205)) Tryz.cT333 Tryz.cT461
noncomputable def Tryz.cT204 : Tr CT := .n (some (mkT Tryz.t204 Tryz.t204)) Tryz.cT332 Tryz.cT460
noncomputable def Tryz.cT203 : Tr CT := .n (some (mkT Tryz.t203 Tryz.t202)) Tryz.cT331 Tryz.cT459
noncomputable def Tryz.cT202 : Tr CT := .n (some (mkT Tryz.t202 Tryz.t202)) Tryz.cT330 Tryz.cT458
noncomputable def Tryz.cT201 : Tr CT := .n (some (mkT Tryz.t201 Tryz.t201)) Tryz.cT329 Tryz.cT457
noncomputable def Tryz.cT200 : Tr CT := .n (some (mkT Tryz.t200 Tryz.t199)) Tryz.cT328 Tryz.cT456
noncomputable def Tryz.cT199 : Tr CT := .n (some (mkT Tryz.t199 Tryz.t199)) Tryz.cT327 Tryz.cT455
noncomputable def Tryz.cT198 : Tr CT := .n (some (mkT Tryz.t198 Tryz.t197)) Tryz.cT326 Tryz.cT454
noncomputable def Tryz.cT197 : Tr CT := .n (some (mkT Tryz.t197 Tryz.t197)) Tryz.cT325 Tryz.cT453
noncomputable def Tryz.cT196 : Tr CT := .n (some (mkT Tryz.t196 Tryz.t196)) Tryz.cT324 Tryz.cT452
noncomputable def Tryz.cT195 : Tr CT := .n (some (mkT Tryz.t195 Tryz.t194)) Tryz.cT323 Tryz.cT451
noncomputable def Tryz.cT194 : Tr CT := .n (some (mkT Tryz.t194 Tryz.t194)) Tryz.cT322 Tryz.cT450
noncomputable def Tryz.cT193 : Tr CT := .n (some (mkT Tryz.t193 Tryz.t193)) Tryz.cT321 Tryz.cT449
noncomputable def Tryz.cT192 : Tr CT := .n (some (mkT Tryz.t192 Tryz.t192)) Tryz.cT320 Tryz.cT448
noncomputable def Tryz.cT191 : Tr CT := .n (some (mkT Tryz.t191 Tryz.t191)) Tryz.cT319 Tryz.cT447
noncomputable def Tryz.cT190 : Tr CT := .n (some (mkT Tryz.t190 Tryz.t190)) Tryz.cT318 Tryz.cT446
noncomputable def Tryz.cT189 : Tr CT := .n (some (mkT Tryz.t189 Tryz.t189)) Tryz.cT317 Tryz.cT445
noncomputable def Tryz.cT188 : Tr CT := .n (some (mkT Tryz.t188 Tryz.t188)) Tryz.cT316 Tryz.cT444
noncomputable def Tryz.cT187 : Tr CT := .n (some (mkT Tryz.t187 Tryz.t186)) Tryz.cT315 Tryz.cT443
noncomputable def Tryz.cT186 : Tr CT := .n (some (mkT Tryz.t186 Tryz.t186)) Tryz.cT314 Tryz.cT442
noncomputable def Tryz.cT185 : Tr CT := .n (some (mkT Tryz.t185 Tryz.t185)) Tryz.cT313 Tryz.cT441
noncomputable def Tryz.cT184 : Tr CT := .n (some (mkT Tryz.t184 Tryz.t184)) Tryz.cT312 Tryz.cT440
noncomputable def Tryz.cT183 : Tr CT := .n (some (mkT Tryz.t183 Tryz.t183)) Tryz.cT311 Tryz.cT439
noncomputable def Tryz.cT182 : Tr CT := .n (some (mkT Tryz.t182 Tryz.t182)) Tryz.cT310 Tryz.cT438
noncomputable def Tryz.cT181 : Tr CT := .n (some (mkT Tryz.t181 Tryz.t181)) Tryz.cT309 Tryz.cT437
noncomputable def Tryz.cT180 : Tr CT := .n (some (mkT Tryz.t180 Tryz.t179)) Tryz.cT308 Tryz.cT436
noncomputable def Tryz.cT179 : Tr CT := .n (some (mkT Tryz.t179 Tryz.t179)) Tryz.cT307 Tryz.cT435
noncomputable def Tryz.cT178 : Tr CT := .n (some (mkT Tryz.t178 Tryz.t177)) Tryz.cT306 Tryz.cT434
noncomputable def Tryz.cT177 : Tr CT := .n (some (mkT Tryz.t177 Tryz.t177)) Tryz.cT305 Tryz.cT433
noncomputable def Tryz.cT176 : Tr CT := .n (some (mkT Tryz.t176 Tryz.t176)) Tryz.cT304 Tryz.cT432
noncomputable def Tryz.cT175 : Tr CT := .n (some (mkT Tryz.t175 Tryz.t175)) Tryz.cT303 Tryz.cT431
noncomputable def Tryz.cT174 : Tr CT := .n (some (mkT Tryz.t174 Tryz.t174)) Tryz.cT302 Tryz.cT430
noncomputable def Tryz.cT173 : Tr CT := .n (some (mkT Tryz.t173 Tryz.t173)) Tryz.cT301 Tryz.cT429
noncomputable def Tryz.cT172 : Tr CT := .n (some (mkT Tryz.t172 Tryz.t172)) Tryz.cT300 Tryz.cT428
noncomputable def Tryz.cT171 : Tr CT := .n (some (mkT Tryz.t171 Tryz.t171)) Tryz.cT299 Tryz.cT427
noncomputable def Tryz.cT170 : Tr CT := .n (some (mkT Tryz.t170 Tryz.t170)) Tryz.cT298 Tryz.cT426
noncomputable def Tryz.cT169 : Tr CT := .n (some (mkT Tryz.t169 Tryz.t169)) Tryz.cT297 Tryz.cT425
noncomputable def Tryz.cT168 : Tr CT := .n (some (mkT Tryz.t168 Tryz.t168)) Tryz.cT296 Tryz.cT424
noncomputable def Tryz.cT167 : Tr CT := .n (some (mkT Tryz.t167 Tryz.t167)) Tryz.cT295 Tryz.cT423
noncomputable def Tryz.cT166 : Tr CT := .n (some (mkT Tryz.t166 Tryz.t165)) Tryz.cT294 Tryz.cT422
noncomputable def Tryz.cT165 : Tr CT := .n (some (mkT Tryz.t165 Tryz.t165)) Tryz.cT293 Tryz.cT421
noncomputable def Tryz.cT164 : Tr CT := .n (some (mkT Tryz.t164 Tryz.t164)) Tryz.cT292 Tryz.cT420
noncomputable def Tryz.cT163 : Tr CT := .n (some (mkT Tryz.t163 Tryz.t163)) Tryz.cT291 Tryz.cT419
noncomputable def Tryz.cT162 : Tr CT := .n (some (mkT Tryz.t162 Tryz.t161)) Tryz.cT290 Tryz.cT418
noncomputable def Tryz.cT161 : Tr CT := .n (some (mkT Tryz.t161 Tryz.t161)) Tryz.cT289 Tryz.cT417
noncomputable def Tryz.cT160 : Tr CT := .n (some (mkT Tryz.t160 Tryz.t160)) Tryz.cT288 Tryz.cT416
noncomputable def Tryz.cT159 : Tr CT := .n (some (mkT Tryz.t159 Tryz.t158)) Tryz.cT287 Tryz.cT415
noncomputable def Tryz.cT158 : Tr CT := .n (some (mkT Tryz.t158 Tryz.t158)) Tryz.cT286 Tryz.cT414
noncomputable def Tryz.cT157 : Tr CT := .n (some (mkT Tryz.t157 Tryz.t157)) Tryz.cT285 Tryz.cT413
noncomputable def Tryz.cT156 : Tr CT := .n (some (mkT Tryz.t156 Tryz.t156)) Tryz.cT284 Tryz.cT412
noncomputable def Tryz.cT155 : Tr CT := .n (some (mkT Tryz.t155 Tryz.t154)) Tryz.cT283 Tryz.cT411
noncomputable def Tryz.cT154 : Tr CT := .n (some (mkT Tryz.t154 Tryz.t154)) Tryz.cT282 Tryz.cT410
noncomputable def Tryz.cT153 : Tr CT := .n (some (mkT Tryz.t153 Tryz.t153)) Tryz.cT281 Tryz.cT409
noncomputable def Tryz.cT152 : Tr CT := .n (some (mkT Tryz.t152 Tryz.t152)) Tryz.cT280 Tryz.cT408
noncomputable def Tryz.cT151 : Tr CT := .n (some (mkT Tryz.t151 Tryz.t151)) Tryz.cT279 Tryz.cT407
noncomputable def Tryz.cT150 : Tr CT := .n (some (mkT Tryz.t150 Tryz.t149)) Tryz.cT278 Tryz.cT406
noncomputable def Tryz.cT149 : Tr CT := .n (some (mkT Tryz.t149 Tryz.t149)) Tryz.cT277 Tryz.cT405
noncomputable def Tryz.cT148 : Tr CT := .n (some (mkT Tryz.t148 Tryz.t148)) Tryz.cT276 Tryz.cT404
noncomputable def Tryz.cT147 : Tr CT := .n (some (mkT Tryz.t147 Tryz.t147)) Tryz.cT275 Tryz.cT403
noncomputable def Tryz.cT146 : Tr CT := .n (some (mkT Tryz.t146 Tryz.t146)) Tryz.cT274 Tryz.cT402
noncomputable def Tryz.cT145 : Tr CT := .n (some (mkT Tryz.t145 Tryz.t145)) Tryz.cT273 Tryz.cT401
noncomputable def Tryz.cT144 : Tr CT := .n (some (mkT Tryz.t144 Tryz.t143)) Tryz.cT272 Tryz.cT400
noncomputable def Tryz.cT143 : Tr CT := .n (some (mkT Tryz.t143 Tryz.t143)) Tryz.cT271 Tryz.cT399
noncomputable def Tryz.cT142 : Tr CT := .n (some (mkT Tryz.t142 Tryz.t142)) Tryz.cT270 Tryz.cT398
noncomputable def Tryz.cT141 : Tr CT := .n (some (mkT Tryz.t141 Tryz.t141)) Tryz.cT269 Tryz.cT397
noncomputable def Tryz.cT140 : Tr CT := .n (some (mkT Tryz.t140 Tryz.t140)) Tryz.cT268 Tryz.cT396
noncomputable def Tryz.cT139 : Tr CT := .n (some (mkT Tryz.t139 Tryz.t139)) Tryz.cT267 Tryz.cT395
noncomputable def Tryz.cT138 : Tr CT := .n (some (mkT Tryz.t138 Tryz.t138)) Tryz.cT266 Tryz.cT394
noncomputable def Tryz.cT137 : Tr CT := .n (some (mkT Tryz.t137 Tryz.t137)) Tryz.cT265 Tryz.cT393
noncomputable def Tryz.cT136 : Tr CT := .n (some (mkT Tryz.t136 Tryz.t136)) Tryz.cT264 Tryz.cT392
noncomputable def Tryz.cT135 : Tr CT := .n (some (mkT Tryz.t135 Tryz.t135)) Tryz.cT263 Tryz.cT391
noncomputable def Tryz.cT134 : Tr CT := .n (some (mkT Tryz.t134 Tryz.t134)) Tryz.cT262 Tryz.cT390
noncomputable def Tryz.cT133 : Tr CT := .n (some (mkT Tryz.t133 Tryz.t133)) Tryz.cT261 Tryz.cT389
noncomputable def Tryz.cT132 : Tr CT := .n (some (mkT Tryz.t132 Tryz.t131)) Tryz.cT260 Tryz.cT388
noncomputable def Tryz.cT131 : Tr CT := .n (some (mkT Tryz.t131 Tryz.t131)) Tryz.cT259 Tryz.cT387
noncomputable def Tryz.cT130 : Tr CT := .n (some (mkT Tryz.t130 Tryz.t130)) Tryz.cT258 Tryz.cT386
noncomputable def Tryz.cT129 : Tr CT := .n (some (mkT Tryz.t129 Tryz.t129)) Tryz.cT257 Tryz.cT385
noncomputable def Tryz.cT128 : Tr CT := .n (some (mkT Tryz.t128 Tryz.t128)) Tryz.cT256 Tryz.cT384
noncomputable def Tryz.cT127 : Tr CT := .n (some (mkT Tryz.t127 Tryz.t127)) Tryz.cT255 Tryz.cT383
noncomputable def Tryz.cT126 : Tr CT := .n (some (mkT Tryz.t126 Tryz.t126)) Tryz.cT190 Tryz.cT254
noncomputable def Tryz.cT125 : Tr CT := .n (some (mkT Tryz.t125 Tryz.t125)) Tryz.cT189 Tryz.cT253
noncomputable def Tryz.cT124 : Tr CT := .n (some (mkT Tryz.t124 Tryz.t123)) Tryz.cT188 Tryz.cT252
noncomputable def Tryz.cT123 : Tr CT := .n (some (mkT Tryz.t123 Tryz.t123)) Tryz.cT187 Tryz.cT251
noncomputable def Tryz.cT122 : Tr CT := .n (some (mkT Tryz.t122 Tryz.t122)) Tryz.cT186 Tryz.cT250
noncomputable def Tryz.cT121 : Tr CT := .n (some (mkT Tryz.t121 Tryz.t121)) Tryz.cT185 Tryz.cT249
noncomputable def Tryz.cT120 : Tr CT := .n (some (mkT Tryz.t120 Tryz.t119)) Tryz.cT184 Tryz.cT248
noncomputable def Tryz.cT119 : Tr CT := .n (some (mkT Tryz.t119 Tryz.t119)) Tryz.cT183 Tryz.cT247
noncomputable def Tryz.cT118 : Tr CT := .n (some (mkT Tryz.t118 Tryz.t118)) Tryz.cT182 Tryz.cT246
noncomputable def Tryz.cT117 : Tr CT := .n (some (mkT Tryz.t117 Tryz.t117)) Tryz.cT181 Tryz.cT245
noncomputable def Tryz.cT116 : Tr CT := .n (some (mkT Tryz.t116 Tryz.t116)) Tryz.cT180 Tryz.cT244
noncomputable def Tryz.cT115 : Tr CT := .n (some (mkT Tryz.t115 Tryz.t115)) Tryz.cT179 Tryz.cT243
noncomputable def Tryz.cT114 : Tr CT := .n (some (mkT Tryz.t114 Tryz.t114)) Tryz.cT178 Tryz.cT242
noncomputable def Tryz.cT113 : Tr CT := .n (some (mkT Tryz.t113 Tryz.t113)) Tryz.cT177 Tryz.cT241
noncomputable def Tryz.cT112 : Tr CT := .n (some (mkT Tryz.t112 Tryz.t112)) Tryz.cT176 Tryz.cT240
noncomputable def Tryz.cT111 : Tr CT := .n (some (mkT Tryz.t111 Tryz.t111)) Tryz.cT175 Tryz.cT239
noncomputable def Tryz.cT110 : Tr CT := .n (some (mkT Tryz.t110 Tryz.t110)) Tryz.cT174 Tryz.cT238
noncomputable def Tryz.cT109 : Tr CT := .n (some (mkT Tryz.t109 Tryz.t109)) Tryz.cT173 Tryz.cT237
noncomputable def Tryz.cT108 : Tr CT := .n (some (mkT Tryz.t108 Tryz.t108)) Tryz.cT172 Tryz.cT236
noncomputable def Tryz.cT107 : Tr CT := .n (some (mkT Tryz.t107 Tryz.t106)) Tryz.cT171 Tryz.cT235
noncomputable def Tryz.cT106 : Tr CT := .n (some (mkT Tryz.t106 Tryz.t106)) Tryz.cT170 Tryz.cT234
noncomputable def Tryz.cT105 : Tr CT := .n (some (mkT Tryz.t105 Tryz.t105)) Tryz.cT169 Tryz.cT233
noncomputable def Tryz.cT104 : Tr CT := .n (some (mkT Tryz.t104 Tryz.t104)) Tryz.cT168 Tryz.cT232
noncomputable def Tryz.cT103 : Tr CT := .n (some (mkT Tryz.t103 Tryz.t103)) Tryz.cT167 Tryz.cT231
noncomputable def Tryz.cT102 : Tr CT := .n (some (mkT Tryz.t102 Tryz.t102)) Tryz.cT166 Tryz.cT230
noncomputable def Tryz.cT101 : Tr CT := .n (some (mkT Tryz.t101 Tryz.t101)) Tryz.cT165 Tryz.cT229
noncomputable def Tryz.cT100 : Tr CT := .n (some (mkT Tryz.t100 Tryz.t100)) Tryz.cT164 Tryz.cT228
noncomputable def Tryz.cT99 : Tr CT := .n (some (mkT Tryz.t99 Tryz.t98)) Tryz.cT163 Tryz.cT227
noncomputable def Tryz.cT98 : Tr CT := .n (some (mkT Tryz.t98 Tryz.t98)) Tryz.cT162 Tryz.cT226
noncomputable def Tryz.cT97 : Tr CT := .n (some (mkT Tryz.t97 Tryz.t97)) Tryz.cT161 Tryz.cT225
noncomputable def Tryz.cT96 : Tr CT := .n (some (mkT Tryz.t96 Tryz.t96)) Tryz.cT160 Tryz.cT224
noncomputable def Tryz.cT95 : Tr CT := .n (some (mkT Tryz.t95 Tryz.t95)) Tryz.cT159 Tryz.cT223
noncomputable def Tryz.cT94 : Tr CT := .n (some (mkT Tryz.t94 Tryz.t93)) Tryz.cT158 Tryz.cT222
noncomputable def Tryz.cT93 : Tr CT := .n (some (mkT Tryz.t93 Tryz.t93)) Tryz.cT157 Tryz.cT221
noncomputable def Tryz.cT92 : Tr CT := .n (some (mkT Tryz.t92 Tryz.t91)) Tryz.cT156 Tryz.cT220
noncomputable def Tryz.cT91 : Tr CT := .n (some (mkT Tryz.t91 Tryz.t91)) Tryz.cT155 Tryz.cT219
noncomputable def Tryz.cT90 : Tr CT := .n (some (mkT Tryz.t90 Tryz.t90)) Tryz.cT154 Tryz.cT218
noncomputable def Tryz.cT89 : Tr CT := .n (some (mkT Tryz.t89 Tryz.t89)) Tryz.cT153 Tryz.cT217
noncomputable def Tryz.cT88 : Tr CT := .n (some (mkT Tryz.t88 Tryz.t87)) Tryz.cT152 Tryz.cT216
noncomputable def Tryz.cT87 : Tr CT := .n (some (mkT Tryz.t87 Tryz.t87)) Tryz.cT151 Tryz.cT215
noncomputable def Tryz.cT86 : Tr CT := .n (some (mkT Tryz.t86 Tryz.t86)) Tryz.cT150 Tryz.cT214
noncomputable def Tryz.cT85 : Tr CT := .n (some (mkT Tryz.t85 Tryz.t85)) Tryz.cT149 Tryz.cT213
noncomputable def Tryz.cT84 : Tr CT := .n (some (mkT Tryz.t84 Tryz.t84)) Tryz.cT148 Tryz.cT212
noncomputable def Tryz.cT83 : Tr CT := .n (some (mkT Tryz.t83 Tryz.t83)) Tryz.cT147 Tryz.cT211
noncomputable def Tryz.cT82 : Tr CT := .n (some (mkT Tryz.t82 Tryz.t82)) Tryz.cT146 Tryz.cT210
noncomputable def Tryz.cT81 : Tr CT := .n (some (mkT Tryz.t81 Tryz.t81)) Tryz.cT145 Tryz.cT209
noncomputable def Tryz.cT80 : Tr CT := .n (some (mkT Tryz.t80 Tryz.t80)) Tryz.cT144 Tryz.cT208
noncomputable def Tryz.cT79 : Tr CT := .n (some (mkT Tryz.t79 Tryz.t78)) Tryz.cT143 Tryz.cT207
noncomputable def Tryz.cT78 : Tr CT := .n (some (mkT Tryz.t78 Tryz.t78)) Tryz.cT142 Tryz.cT206
noncomputable def Tryz.cT77 : Tr CT := .n (some (mkT Tryz.t77 Tryz.t77)) Tryz.cT141 Tryz.cT205
noncomputable def Tryz.cT76 : Tr CT := .n (some (mkT Tryz.t76 Tryz.t76)) Tryz.cT140 Tryz.cT204
noncomputable def Tryz.cT75 : Tr CT := .n (some (mkT Tryz.t75 Tryz.t74)) Tryz.cT139 Tryz.cT203
noncomputable def Tryz.cT74 : Tr CT := .n (some (mkT Tryz.t74 Tryz.t74)) Tryz.cT138 Tryz.cT202
noncomputable def Tryz.cT73 : Tr CT := .n (some (mkT Tryz.t73 Tryz.t73)) Tryz.cT137 Tryz.cT201
noncomputable def Tryz.cT72 : Tr CT := .n (some (mkT Tryz.t72 Tryz.t71)) Tryz.cT136 Tryz.cT200
noncomputable def Tryz.cT71 : Tr CT := .n (some (mkT Tryz.t71 Tryz.t71)) Tryz.cT135 Tryz.cT199
noncomputable def Tryz.cT70 : Tr CT := .n (some (mkT Tryz.t70 Tryz.t70)) Tryz.cT134 Tryz.cT198
noncomputable def Tryz.cT69 : Tr CT := .n (some (mkT Tryz.t69 Tryz.t69)) Tryz.cT133 Tryz.cT197
noncomputable def Tryz.cT68 : Tr CT := .n (some (mkT Tryz.t68 Tryz.t68)) Tryz.cT132 Tryz.cT196
noncomputable def Tryz.cT67 : Tr CT := .n (some (mkT Tryz.t67 Tryz.t67)) Tryz.cT131 Tryz.cT195
noncomputable def Tryz.cT66 : Tr CT := .n (some (mkT Tryz.t66 Tryz.t66)) Tryz.cT130 Tryz.cT194
noncomputable def Tryz.cT65 : Tr CT := .n (some (mkT Tryz.t65 Tryz.t65)) Tryz.cT129 Tryz.cT193
noncomputable def Tryz.cT64 : Tr CT := .n (some (mkT Tryz.t64 Tryz.t63)) Tryz.cT128 Tryz.cT192
noncomputable def Tryz.cT63 : Tr CT := .n (some (mkT Tryz.t63 Tryz.t63)) Tryz.cT127 Tryz.cT191
noncomputable def Tryz.cT62 : Tr CT := .n (some (mkT Tryz.t62 Tryz.t61)) Tryz.cT94 Tryz.cT126
noncomputable def Tryz.cT61 : Tr CT := .n (some (mkT Tryz.t61 Tryz.t61)) Tryz.cT93 Tryz.cT125
noncomputable def Tryz.cT60 : Tr CT := .n (some (mkT Tryz.t60 Tryz.t60)) Tryz.cT92 Tryz.cT124
noncomputable def Tryz.cT59 : Tr CT := .n (some (mkT Tryz.t59 Tryz.t59)) Tryz.cT91 Tryz.cT123
noncomputable def Tryz.cT58 : Tr CT := .n (some (mkT Tryz.t58 Tryz.t58)) Tryz.cT90 Tryz.cT122
noncomputable def Tryz.cT57 : Tr CT := .n (some (mkT Tryz.t57 Tryz.t57)) Tryz.cT89 Tryz.cT121
noncomputable def Tryz.cT56 : Tr CT := .n (some (mkT Tryz.t56 Tryz.t56)) Tryz.cT88 Tryz.cT120
noncomputable def Tryz.cT55 : Tr CT := .n (some (mkT Tryz.t55 Tryz.t55)) Tryz.cT87 Tryz.cT119
noncomputable def Tryz.cT54 : Tr CT := .n (some (mkT Tryz.t54 Tryz.t54)) Tryz.cT86 Tryz.cT118
noncomputable def Tryz.cT53 : Tr CT := .n (some (mkT Tryz.t53 Tryz.t53)) Tryz.cT85 Tryz.cT117
noncomputable def Tryz.cT52 : Tr CT := .n (some (mkT Tryz.t52 Tryz.t52)) Tryz.cT84 Tryz.cT116
noncomputable def Tryz.cT51 : Tr CT := .n (some (mkT Tryz.t51 Tryz.t51)) Tryz.cT83 Tryz.cT115
noncomputable def Tryz.cT50 : Tr CT := .n (some (mkT Tryz.t50 Tryz.t50)) Tryz.cT82 Tryz.cT114
noncomputable def Tryz.cT49 : Tr CT := .n (some (mkT Tryz.t49 Tryz.t49)) Tryz.cT81 Tryz.cT113
noncomputable def Tryz.cT48 : Tr CT := .n (some (mkT Tryz.t48 Tryz.t48)) Tryz.cT80 Tryz.cT112
noncomputable def Tryz.cT47 : Tr CT := .n (some (mkT Tryz.t47 Tryz.t47)) Tryz.cT79 Tryz.cT111
noncomputable def Tryz.cT46 : Tr CT := .n (some (mkT Tryz.t46 Tryz.t45)) Tryz.cT78 Tryz.cT110
noncomputable def Tryz.cT45 : Tr CT := .n (some (mkT Tryz.t45 Tryz.t45)) Tryz.cT77 Tryz.cT109
noncomputable def Tryz.cT44 : Tr CT := .n (some (mkT Tryz.t44 Tryz.t44)) Tryz.cT76 Tryz.cT108
noncomputable def Tryz.cT43 : Tr CT := .n (some (mkT Tryz.t43 Tryz.t43)) Tryz.cT75 Tryz.cT107
noncomputable def Tryz.cT42 : Tr CT := .n (some (mkT Tryz.t42 Tryz.t42)) Tryz.cT74 Tryz.cT106
noncomputable def Tryz.cT41 : Tr CT := .n (some (mkT Tryz.t41 Tryz.t41)) Tryz.cT73 Tryz.cT105
noncomputable def Tryz.cT40 : Tr CT := .n (some (mkT Tryz.t40 Tryz.t40)) Tryz.cT72 Tryz.cT104
noncomputable def Tryz.cT39 : Tr CT := .n (some (mkT Tryz.t39 Tryz.t39)) Tryz.cT71 Tryz.cT103
noncomputable def Tryz.cT38 : Tr CT := .n (some (mkT Tryz.t38 Tryz.t38)) Tryz.cT70 Tryz.cT102
noncomputable def Tryz.cT37 : Tr CT := .n (some (mkT Tryz.t37 Tryz.t36)) Tryz.cT69 Tryz.cT101
noncomputable def Tryz.cT36 : Tr CT := .n (some (mkT Tryz.t36 Tryz.t36)) Tryz.cT68 Tryz.cT100
noncomputable def Tryz.cT35 : Tr CT := .n (some (mkT Tryz.t35 Tryz.t34)) Tryz.cT67 Tryz.cT99
noncomputable def Tryz.cT34 : Tr CT := .n (some (mkT Tryz.t34 Tryz.t34)) Tryz.cT66 Tryz.cT98
noncomputable def Tryz.cT33 : Tr CT := .n (some (mkT Tryz.t33 Tryz.t33)) Tryz.cT65 Tryz.cT97
noncomputable def Tryz.cT32 : Tr CT := .n (some (mkT Tryz.t32 Tryz.t32)) Tryz.cT64 Tryz.cT96
noncomputable def Tryz.cT31 : Tr CT := .n (some (mkT Tryz.t31 Tryz.t31)) Tryz.cT63 Tryz.cT95
noncomputable def Tryz.cT30 : Tr CT := .n (some (mkT Tryz.t30 Tryz.t30)) Tryz.cT46 Tryz.cT62
noncomputable def Tryz.cT29 : Tr CT := .n (some (mkT Tryz.t29 Tryz.t29)) Tryz.cT45 Tryz.cT61
noncomputable def Tryz.cT28 : Tr CT := .n (some (mkT Tryz.t28 Tryz.t28)) Tryz.cT44 Tryz.cT60
noncomputable def Tryz.cT27 : Tr CT := .n (some (mkT Tryz.t27 Tryz.t27)) Tryz.cT43 Tryz.cT59
noncomputable def Tryz.cT26 : Tr CT := .n (some (mkT Tryz.t26 Tryz.t26)) Tryz.cT42 Tryz.cT58
noncomputable def Tryz.cT25 : Tr CT := .n (some (mkT Tryz.t25 Tryz.t3)) Tryz.cT41 Tryz.cT57
noncomputable def Tryz.cT24 : Tr CT := .n (some (mkT Tryz.t24 Tryz.t24)) Tryz.cT40 Tryz.cT56
noncomputable def Tryz.cT23 : Tr CT := .n (some (mkT Tryz.t23 Tryz.t22)) Tryz.cT39 Tryz.cT55
noncomputable def Tryz.cT22 : Tr CT := .n (some (mkT Tryz.t22 Tryz.t22)) Tryz.cT38 Tryz.cT54
noncomputable def Tryz.cT21 : Tr CT := .n (some (mkT Tryz.t21 Tryz.t21)) Tryz.cT37 Tryz.cT53
noncomputable def Tryz.cT20 : Tr CT := .n (some (mkT Tryz.t20 Tryz.t20)) Tryz.cT36 Tryz.cT52
noncomputable def Tryz.cT19 : Tr CT := .n (some (mkT Tryz.t19 Tryz.t18)) Tryz.cT35 Tryz.cT51
noncomputable def Tryz.cT18 : Tr CT := .n (some (mkT Tryz.t18 Tryz.t18)) Tryz.cT34 Tryz.cT50
noncomputable def Tryz.cT17 : Tr CT := .n (some (mkT Tryz.t17 Tryz.t17)) Tryz.cT33 Tryz.cT49
noncomputable def Tryz.cT16 : Tr CT := .n (some (mkT Tryz.t16 Tryz.t16)) Tryz.cT32 Tryz.cT48
noncomputable def Tryz.cT15 : Tr CT := .n (some (mkT Tryz.t15 Tryz.t15)) Tryz.cT31 Tryz.cT47
noncomputable def Tryz.cT14 : Tr CT := .n (some (mkT Tryz.t14 Tryz.t13)) Tryz.cT22 Tryz.cT30
noncomputable def Tryz.cT13 : Tr CT := .n (some (mkT Tryz.t13 Tryz.t13)) Tryz.cT21 Tryz.cT29
noncomputable def Tryz.cT12 : Tr CT := .n (some (mkT Tryz.t12 Tryz.t12)) Tryz.cT20 Tryz.cT28
noncomputable def Tryz.cT11 : Tr CT := .n (some (mkT Tryz.t11 Tryz.t9)) Tryz.cT19 Tryz.cT27
noncomputable def Tryz.cT10 : Tr CT := .n (some (mkT Tryz.t10 Tryz.t9)) Tryz.cT18 Tryz.cT26
noncomputable def Tryz.cT9 : Tr CT := .n (some (mkT Tryz.t9 Tryz.t9)) Tryz.cT17 Tryz.cT25
noncomputable def Tryz.cT8 : Tr CT := .n (some (mkT Tryz.t8 Tryz.t7)) Tryz.cT16 Tryz.cT24
noncomputable def Tryz.cT7 : Tr CT := .n (some (mkT Tryz.t7 Tryz.t7)) Tryz.cT15 Tryz.cT23
noncomputable def Tryz.cT6 : Tr CT := .n (some (mkT Tryz.t6 Tryz.t5)) Tryz.cT10 Tryz.cT14
noncomputable def Tryz.cT5 : Tr CT := .n (some (mkT Tryz.t5 Tryz.t5)) Tryz.cT9 Tryz.cT13
noncomputable def Tryz.cT4 : Tr CT := .n (some (mkT Tryz.t4 Tryz.t4)) Tryz.cT8 Tryz.cT12
noncomputable def Tryz.cT3 : Tr CT := .n (some (mkT Tryz.t3 Tryz.t3)) Tryz.cT7 Tryz.cT11
noncomputable def Tryz.cT2 : Tr CT := .n (some (mkT Tryz.t2 Tryz.t2)) Tryz.cT4 Tryz.cT6
noncomputable def Tryz.cT1 : Tr CT := .n (some (mkT Tryz.t1 Tryz.t1)) Tryz.cT3 Tryz.cT5
noncomputable def Tryz.cT0 : Tr CT := .n (some (mkT Tryz.t0 Tryz.t0)) Tryz.cT1 Tryz.cT2
noncomputable def Tryz.cF673 : Tr CF := .n (some (mkF Tryz.f673 (.e))) .e .e
noncomputable def Tryz.cF672 : Tr CF := .n none .e .e
noncomputable def Tryz.cF671 : Tr CF := .n none .e .e
noncomputable def Tryz.cF670 : Tr CF := .n none .e .e
noncomputable def Tryz.cF669 : Tr CF := .n none .e .e
noncomputable def Tryz.cF668 : Tr CF := .n none .e .e
noncomputable def Tryz.cF667 : Tr CF := .n none .e .e
noncomputable def Tryz.cF666 : Tr CF := .n none .e .e
noncomputable def Tryz.cF665 : Tr CF := .n none .e .e
noncomputable def Tryz.cF664 : Tr CF := .n none .e .e
noncomputable def Tryz.cF663 : Tr CF := .n none .e .e
noncomputable def Tryz.cF662 : Tr CF := .n none .e .e
noncomputable def Tryz.cF661 : Tr CF := .n none .e .e
noncomputable def Tryz.cF660 : Tr CF := .n none .e .e
noncomputable def Tryz.cF659 : Tr CF := .n none .e .e
noncomputable def Tryz.cF658 : Tr CF := .n none .e .e
noncomputable def Tryz.cF657 : Tr CF := .n none .e .e
noncomputable def Tryz.cF656 : Tr CF := .n none .e .e
noncomputable def Tryz.cF655 : Tr CF := .n none .e .e
noncomputable def Tryz.cF654 : Tr CF := .n none .e .e
noncomputable def Tryz.cF653 : Tr CF := .n none .e .e
noncomputable def Tryz.cF652 : Tr CF := .n none .e .e
noncomputable def Tryz.cF651 : Tr CF := .n none .e .e
noncomputable def Tryz.cF650 : Tr CF := .n none .e .e
noncomputable def Tryz.cF649 : Tr CF := .n none .e .e
noncomputable def Tryz.cF648 : Tr CF := .n none .e .e
noncomputable def Tryz.cF647 : Tr CF := .n none .e .e
noncomputable def Tryz.cF646 : Tr CF := .n none .e .e
noncomputable def Tryz.cF645 : Tr CF := .n none .e .e
noncomputable def Tryz.cF644 : Tr CF := .n none .e .e
noncomputable def Tryz.cF643 : Tr CF := .n (some (mkF Tryz.f643 (.e))) .e .e
noncomputable def Tryz.cF642 : Tr CF := .n (some (mkF Tryz.f642 (.n none (.n (some ([⟨0, [], []⟩, ⟨1, [], []⟩, ⟨2, [], []⟩, ⟨3, [], []⟩, ⟨4, [], []⟩, ⟨5, [], []⟩, ⟨6, [], []⟩, ⟨7, [], []⟩, ⟨8, [], []⟩, ⟨9, [], []⟩, ⟨10, [], []⟩])) .e
 .e)
 .e))) .e .e
noncomputable def Tryz.cF641 : Tr CF := .n (some (mkF Tryz.f641 (.e))) .e .e
noncomputable def Tryz.cF640 : Tr CF := .n (some (mkF Tryz.f640 (.e))) .e .e
noncomputable def Tryz.cF639 : Tr CF := .n (some (mkF Tryz.f639 (.n (some ([⟨0, [], []⟩, ⟨1, [], []⟩, ⟨2, [], []⟩, ⟨3, [], []⟩, ⟨4, [], []⟩, ⟨5, [], []⟩, ⟨6, [], []⟩, ⟨7, [], []⟩, ⟨8, [], []⟩, ⟨9, [], []⟩, ⟨10, [], []⟩, ⟨11, [], []⟩, ⟨12, [], []⟩, ⟨13, [], []⟩, ⟨14, [], []⟩, ⟨15, [], []⟩, ⟨16, [], []⟩, ⟨17, [], []⟩, ⟨18, [], []⟩, ⟨19, [], []⟩, ⟨20, [], []⟩, ⟨21, [], []⟩, ⟨22, [], []⟩, ⟨23, [], []⟩, ⟨24, [], []⟩, ⟨25, [], []⟩, ⟨26, [], []⟩, ⟨27, [], []⟩])) .e
 .e))) .e .e
noncomputable def Tryz.cF638 : Tr CF := .n (some (mkF Tryz.f638 (.n none (.n (some ([⟨0, [], []⟩, ⟨1, [], []⟩, ⟨2, [], []⟩, ⟨3, [], []⟩, ⟨4, [], []⟩, ⟨5, [], []⟩, ⟨6, [], []⟩, ⟨7, [], []⟩, ⟨8, [], []⟩, ⟨9, [], []⟩, ⟨10, [], []⟩, ⟨11, [], []⟩, ⟨12, [], []⟩, ⟨13, [], []⟩, ⟨14, [], []⟩, ⟨15, [], []⟩, ⟨16, [10, 13], []⟩, ⟨17, [], []⟩])) .e
 .e)
 (.n (some ([⟨0, [], []⟩, ⟨1, [], []⟩, ⟨2, [], []⟩, ⟨3, [], []⟩, ⟨4, [], []⟩, ⟨5, [], []⟩, ⟨6, [], []⟩, ⟨7, [], []⟩, ⟨8, [], []⟩])) (.n (some ([⟨0, [], []⟩, ⟨1, [], []⟩, ⟨2, [], []⟩, ⟨3, [], []⟩, ⟨4, [], []⟩, ⟨5, [], []⟩, ⟨6, [], []⟩, ⟨7, [], []⟩, ⟨8, [], []⟩])) .e
 .e)
 .e)))) .e .e
noncomputable def Tryz.cF637 : Tr CF := .n (some (mkF Tryz.f637 (.e))) .e .e
noncomputable def Tryz.cF636 : Tr CF := .n (some (mkF Tryz.f636 (.e))) .e .e
noncomputable def Tryz.cF635 : Tr CF := .n (some (mkF Tryz.f635 (.e))) .e .e
noncomputable def Tryz.cF634 : Tr CF := .n (some (mkF Tryz.f634 (.e))) .e .e
noncomputable def Tryz.cF633 : Tr CF := .n (some (mkF Tryz.f633 (.e))) .e .e
noncomputable def Tryz.cF632 : Tr CF := .n (some (mkF Tryz.f632 (.n none (.n none (.n (some ([⟨0, [], []⟩, ⟨1, [], []⟩, ⟨2, [], []⟩, ⟨3, [], []⟩, ⟨4, [], []⟩, ⟨5, [], []⟩, ⟨6, [], []⟩, ⟨7, [], []⟩, ⟨8, [], []⟩, ⟨9, [], []⟩, ⟨10, [], []⟩, ⟨11, [], []⟩, ⟨12, [], []⟩, ⟨13, [], []⟩, ⟨14, [], []⟩, ⟨15, [], []⟩, ⟨16, [], []⟩, ⟨17, [], []⟩, ⟨18, [], []⟩, ⟨19, [], []⟩, ⟨20, [], []⟩, ⟨21, [], []⟩])) .e
 .e)
 (.n (some ([⟨0, [], []⟩, ⟨1, [], []⟩, ⟨2, [], []⟩, ⟨3, [], []⟩, ⟨4, [], []⟩, ⟨5, [], []⟩, ⟨6, [], []⟩, ⟨7, [], []⟩, ⟨8, [], []⟩, ⟨9, [], []⟩, ⟨10, [], []⟩, ⟨11, [], []⟩, ⟨12, [], []⟩, ⟨13, [], []⟩, ⟨14, [], []⟩, ⟨15, [], []⟩])) .e
 .e))
 (.n none .e
 (.n (some ([⟨0, [], []⟩, ⟨1, [], []⟩, ⟨2, [], []⟩, ⟨3, [], []⟩, ⟨4, [], []⟩, ⟨5, [], []⟩, ⟨6, [], []⟩, ⟨7, [], []⟩, ⟨8, [], []⟩, ⟨9, [], []⟩, ⟨10, [], []⟩, ⟨11, [], []⟩, ⟨12, [], []⟩, ⟨13, [], []⟩, ⟨14, [], []⟩, ⟨15, [], []⟩, ⟨16, [], []⟩, ⟨17, [], []⟩, ⟨18, [], []⟩, ⟨19, [], []⟩, ⟨20, [], []⟩, ⟨21, [], []⟩, ⟨22, [], []⟩, ⟨23, [], []⟩])) .e
 .e))))) .e .e
noncomputable def Tryz.cF631 : Tr CF := .n (some (mkF Tryz.f631 (.e))) .e .e
noncomputable def Tryz.cF630 : Tr CF := .n (some (mkF Tryz.f630 (.n none .e
 (.n (some ([⟨0, [], []⟩, ⟨1, [], []⟩, ⟨2, [], []⟩, ⟨3, [], []⟩, ⟨4, [], []⟩, ⟨5, [], []⟩, ⟨6, [], []⟩, ⟨7, [], []⟩, ⟨8, [], []⟩, ⟨9, [], []⟩, ⟨10, [], []⟩, ⟨11, [], []⟩, ⟨12, [], []⟩, ⟨13, [], []⟩, ⟨14, [], []⟩, ⟨15, [], []⟩])) .e
 .e)))) .e .e
noncomputable def Tryz.cF629 : Tr CF := .n (some (mkF Tryz.f629 (.e))) .e .e
noncomputable def Tryz.cF628 : Tr CF := .n (some (mkF Tryz.f628 (.e))) .e .e
noncomputable def Tryz.cF627 : Tr CF := .n (some (mkF Tryz.f627 (.e))) .e .e
noncomputable def Tryz.cF626 : Tr CF := .n (some (mkF Tryz.f626 (.n none (.n (some ([⟨0, [], []⟩, ⟨1, [], []⟩, ⟨2, [], []⟩, ⟨3, [], []⟩, ⟨4, [], []⟩, ⟨5, [], []⟩, ⟨6, [], []⟩, ⟨7, [], []⟩, ⟨8, [], []⟩, ⟨9, [], []⟩, ⟨10, [], []⟩])) .e
 .e)
 .e))) .e .e
noncomputable def Tryz.cF625 : Tr CF := .n (some (mkF Tryz.f625 (.n none (.n (some ([⟨0, [], []⟩, ⟨1, [], []⟩, ⟨2, [], []⟩, ⟨3, [], []⟩, ⟨9, [], []⟩, ⟨4, [2, 9], []⟩, ⟨5, [], []⟩, ⟨6, [], []⟩, ⟨7, [], []⟩, ⟨8, [], []⟩, ⟨10, [2, 8], []⟩, ⟨11, [], []⟩, ⟨12, [], []⟩, ⟨13, [], []⟩, ⟨14, [], []⟩])) .e
 .e)
 .e))) .e .e
noncomputable def Tryz.cF624 : Tr CF := .n (some (mkF Tryz.f624 (.n none (.n (some ([⟨0, [], []⟩, ⟨1, [], []⟩, ⟨2, [], []⟩, ⟨3, [], []⟩, ⟨4, [], []⟩, ⟨5, [], []⟩, ⟨6, [], []⟩, ⟨7, [], []⟩, ⟨8, [], []⟩])) .e
 .e)
 .e))) .e .e
noncomputable def Tryz.cF623 : Tr CF := .n (some (mkF Tryz.f623 (.n none (.n (some ([⟨0, [], []⟩, ⟨1, [], []⟩, ⟨2, [], []⟩, ⟨3, [], []⟩, ⟨4, [], []⟩, ⟨5, [], []⟩, ⟨6, [], []⟩, ⟨7, [], []⟩, ⟨8, [], []⟩, ⟨9, [], []⟩, ⟨10, [], []⟩, ⟨11, [], []⟩, ⟨12, [], []⟩, ⟨13, [], []⟩, ⟨14, [], []⟩, ⟨15, [], []⟩, ⟨16, [], []⟩, ⟨17, [], []⟩, ⟨18, [], []⟩, ⟨19, [], []⟩, ⟨20, [], []⟩, ⟨21, [], []⟩, ⟨22, [], []⟩])) .e
 .e)
 (.n (some ([⟨0, [], []⟩, ⟨1, [], []⟩, ⟨2, [], []⟩, ⟨3, [], []⟩, ⟨4, [], []⟩, ⟨5, [], []⟩, ⟨6, [], []⟩, ⟨7, [], []⟩, ⟨8, [], []⟩, ⟨9, [], []⟩, ⟨10, [], []⟩, ⟨11, [], []⟩])) .e
 .e)))) .e .e
noncomputable def Tryz.cF622 : Tr CF := .n (some (mkF Tryz.f622 (.e))) .e .e
noncomputable def Tryz.cF621 : Tr CF := .n (some (mkF Tryz.f621 (.n none (.n none (.n (some ([⟨0, [], []⟩, ⟨1, [], []⟩, ⟨2, [], []⟩, ⟨3, [], []⟩, ⟨4, [], []⟩, ⟨5, [], []⟩, ⟨6, [], []⟩, ⟨7, [], []⟩, ⟨8, [], []⟩, ⟨9, [], []⟩, ⟨10, [], []⟩, ⟨11, [], []⟩, ⟨12, [], []⟩, ⟨13, [], []⟩, ⟨14, [], []⟩, ⟨15, [], []⟩, ⟨16, [], []⟩, ⟨17, [], []⟩, ⟨18, [], []⟩, ⟨19, [], []⟩])) .e
 .e)
 .e)
 (.n (some ([⟨0, [], []⟩, ⟨1, [], []⟩, ⟨2, [], []⟩, ⟨3, [], []⟩, ⟨4, [], []⟩, ⟨5, [], []⟩, ⟨6, [], []⟩, ⟨7, [], []⟩, ⟨8, [], []⟩, ⟨9, [], []⟩, ⟨10, [], []⟩, ⟨11, [], []⟩, ⟨12, [], []⟩, ⟨13, [], []⟩, ⟨14, [], []⟩, ⟨15, [], []⟩])) (.n none (.n (some ([⟨0, [], []⟩, ⟨1, [], []⟩, ⟨2, [], []⟩, ⟨3, [], []⟩, ⟨4, [], []⟩, ⟨5, [], []⟩, ⟨6, [], []⟩, ⟨7, [], []⟩, ⟨8, [], []⟩, ⟨9, [], []⟩, ⟨10, [], []⟩, ⟨11, [], []⟩, ⟨12, [], []⟩, ⟨13, [], []⟩, ⟨14, [], []⟩, ⟨15, [], []⟩])) .e
 .e)
 .e)
 (.n none .e
 (.n (some ([⟨0, [], []⟩, ⟨1, [], []⟩, ⟨2, [], []⟩, ⟨3, [], []⟩, ⟨4, [], []⟩, ⟨5, [], []⟩, ⟨6, [], []⟩, ⟨7, [], []⟩, ⟨8, [], []⟩, ⟨9, [], []⟩, ⟨10, [], []⟩, ⟨11, [], []⟩, ⟨12, [], []⟩, ⟨13, [], []⟩, ⟨14, [], []⟩, ⟨15, [], []⟩, ⟨16, [], []⟩, ⟨17, [], []⟩, ⟨18, [], []⟩, ⟨19, [], []⟩, ⟨20, [], []⟩, ⟨21, [], []⟩, ⟨22, [], []⟩, ⟨23, [], []⟩, ⟨24, [], []⟩, ⟨25, [], []⟩])) .e
 .e)))))) .e .e
noncomputable def Tryz.cF620 : Tr CF := .n (some (mkF Tryz.f620 (.e))) .e .e
noncomputable def Tryz.cF619 : Tr CF := .n (some (mkF Tryz.f619 (.n none (.n none .e
 (.n none (.n none (.n (some ([⟨0, [], []⟩, ⟨1, [], []⟩, ⟨2, [], []⟩, ⟨3, [], []⟩, ⟨4, [], []⟩, ⟨5, [], []⟩, ⟨6, [], []⟩, ⟨7, [], []⟩, ⟨8, [], []⟩, ⟨10, [], []⟩, ⟨11, [], []⟩, ⟨9, [11], []⟩, ⟨12, [], []⟩, ⟨13, [], []⟩, ⟨14, [], []⟩, ⟨15, [], []⟩, ⟨16, [], []⟩, ⟨17, [], []⟩, ⟨18, [], []⟩, ⟨19, [], []⟩, ⟨20, [], []⟩, ⟨21, [], []⟩])) .e
 .e)
 .e)
 .e))
 (.n none .e
 (.n none (.n none (.n (some ([⟨0, [], []⟩, ⟨1, [], []⟩, ⟨2, [], []⟩, ⟨3, [], []⟩, ⟨4, [], []⟩, ⟨5, [], []⟩, ⟨6, [], []⟩, ⟨7, [], []⟩, ⟨8, [], []⟩, ⟨9, [], []⟩, ⟨10, [], []⟩, ⟨11, [], []⟩, ⟨12, [], []⟩, ⟨13, [], []⟩, ⟨14, [], []⟩, ⟨15, [], []⟩, ⟨16, [], []⟩, ⟨17, [], []⟩, ⟨18, [], []⟩, ⟨19, [], []⟩, ⟨20, [], []⟩, ⟨23, [], []⟩, ⟨21, [6, 8, 16], []⟩, ⟨22, [], []⟩, ⟨24, [], []⟩, ⟨25, [], []⟩, ⟨26, [], []⟩, ⟨27, [], []⟩])) .e
 .e)
 .e)
 .e))))) .e .e
noncomputable def Tryz.cF618 : Tr CF := .n (some (mkF Tryz.f618 (.n none (.n (some ([⟨0, [], []⟩, ⟨1, [], []⟩, ⟨2, [], []⟩, ⟨3, [], []⟩, ⟨4, [], []⟩, ⟨5, [], []⟩, ⟨6, [], []⟩, ⟨7, [], []⟩, ⟨8, [], []⟩, ⟨9, [], []⟩, ⟨10, [], []⟩, ⟨11, [], []⟩, ⟨12, [], []⟩, ⟨13, [], []⟩, ⟨14, [], []⟩, ⟨15, [], []⟩, ⟨16, [], []⟩, ⟨17, [], []⟩, ⟨18, [], []⟩, ⟨19, [], []⟩])) .e
 .e)
 (.n none (.n none (.n (some ([⟨0, [], []⟩, ⟨1, [], []⟩, ⟨2, [], []⟩, ⟨3, [], []⟩, ⟨4, [], []⟩, ⟨5, [], []⟩, ⟨6, [], []⟩, ⟨7, [], []⟩, ⟨8, [], []⟩, ⟨9, [], []⟩, ⟨10, [], []⟩, ⟨11, [], []⟩, ⟨12, [], []⟩, ⟨13, [], []⟩, ⟨14, [], []⟩, ⟨15, [], []⟩, ⟨16, [], []⟩, ⟨17, [], []⟩, ⟨18, [], []⟩])) .e
 .e)
 .e)
 .e)))) .e .e
noncomputable def Tryz.cF617 : Tr CF := .n (some (mkF Tryz.f617 (.n none (.n none (.n (some ([⟨0, [], []⟩, ⟨1, [], []⟩, ⟨2, [], []⟩, ⟨3, [], []⟩, ⟨4, [], []⟩, ⟨5, [], []⟩, ⟨6, [], []⟩, ⟨7, [], []⟩, ⟨8, [], []⟩, ⟨9, [], []⟩, ⟨10, [], []⟩, ⟨11, [], []⟩, ⟨12, [], []⟩, ⟨13, [], []⟩, ⟨14, [], []⟩, ⟨15, [], []⟩, ⟨16, [], []⟩, ⟨17, [], []⟩, ⟨18, [], []⟩, ⟨19, [], []⟩, ⟨20, [], []⟩, ⟨21, [], []⟩, ⟨22, [], []⟩, ⟨23, [], []⟩, ⟨24, [], []⟩, ⟨25, [], []⟩, ⟨26, [], []⟩, ⟨27, [], []⟩, ⟨28, [], []⟩, ⟨29, [], []⟩, ⟨30, [], []⟩, ⟨31, [], []⟩, ⟨32, [], []⟩, ⟨33, [], []⟩, ⟨34, [], []⟩, ⟨35, [], []⟩, ⟨36, [], []⟩, ⟨37, [], []⟩, ⟨38, [], []⟩, ⟨39, [], []⟩, ⟨40, [], []⟩, ⟨41, [], []⟩, ⟨42, [], []⟩, ⟨43, [], []⟩])) .e
 .e)
 .e)
 (.n none (.n none (.n (some ([⟨0, [], []⟩, ⟨1, [], []⟩, ⟨2, [], []⟩, ⟨3, [], []⟩, ⟨4, [], []⟩, ⟨5, [], []⟩, ⟨6, [], []⟩, ⟨7, [], []⟩, ⟨8, [], []⟩])) .e
 .e)
 .e)
 .e)))) .e .e
noncomputable def Tryz.cF616 : Tr CF := .n (some (mkF Tryz.f616 (.e))) .e .e
noncomputable def Tryz.cF615 : Tr CF := .n (some (mkF Tryz.f615 (.n none (.n (some ([⟨0, [], []⟩, ⟨1, [], []⟩, ⟨2, [], []⟩, ⟨3, [], []⟩, ⟨4, [], []⟩, ⟨5, [], []⟩, ⟨6, [], []⟩, ⟨7, [], []⟩, ⟨8, [], []⟩, ⟨9, [], []⟩, ⟨10, [], []⟩, ⟨11, [], []⟩, ⟨12, [], []⟩, ⟨13, [], []⟩, ⟨14, [], []⟩, ⟨15, [], []⟩])) (.n (some ([⟨0, [], []⟩, ⟨1, [], []⟩, ⟨2, [], []⟩, ⟨3, [], []⟩, ⟨4, [], []⟩, ⟨5, [], []⟩, ⟨6, [], []⟩, ⟨7, [], []⟩, ⟨8, [], []⟩, ⟨9, [], []⟩, ⟨10, [], []⟩, ⟨11, [], []⟩, ⟨12, [], []⟩, ⟨13, [], []⟩, ⟨14, [], []⟩, ⟨15, [], []⟩])) (.n none (.n (some ([⟨0, [], []⟩, ⟨1, [], []⟩, ⟨2, [], []⟩, ⟨3, [], []⟩, ⟨4, [], []⟩, ⟨5, [], []⟩, ⟨6, [], []⟩, ⟨7, [], []⟩, ⟨8, [], []⟩, ⟨9, [], []⟩, ⟨10, [], []⟩, ⟨11, [], []⟩, ⟨12, [], []⟩, ⟨13, [], []⟩, ⟨14, [], []⟩, ⟨15, [], []⟩, ⟨16, [], []⟩])) .e
 .e)
 .e)
 .e)
 (.n (some ([⟨0, [], []⟩, ⟨1, [], []⟩, ⟨2, [], []⟩, ⟨3, [], []⟩, ⟨4, [], []⟩, ⟨5, [], []⟩, ⟨6, [], []⟩, ⟨7, [], []⟩, ⟨8, [], []⟩, ⟨9, [], []⟩, ⟨10, [], []⟩, ⟨11, [], []⟩, ⟨12, [], []⟩, ⟨13, [], []⟩, ⟨14, [], []⟩, ⟨15, [], []⟩, ⟨16, [], []⟩])) .e
 (.n (some ([⟨0, [], []⟩, ⟨1, [], []⟩, ⟨2, [], []⟩, ⟨3, [], []⟩, ⟨4, [], []⟩, ⟨5, [], []⟩, ⟨6, [], []⟩, ⟨7, [], []⟩, ⟨8, [], []⟩, ⟨9, [], []⟩, ⟨10, [], []⟩, ⟨11, [], []⟩, ⟨12, [], []⟩, ⟨13, [], []⟩, ⟨14, [], []⟩, ⟨15, [], []⟩])) (.n (some ([⟨0, [], []⟩, ⟨1, [], []⟩, ⟨2, [], []⟩, ⟨3, [], []⟩, ⟨4, [], []⟩, ⟨5, [], []⟩, ⟨6, [], []⟩, ⟨7, [], []⟩, ⟨8, [], []⟩, ⟨9, [], []⟩, ⟨10, [], []⟩, ⟨11, [], []⟩, ⟨12, [], []⟩, ⟨13, [], []⟩, ⟨14, [], []⟩, ⟨15, [], []⟩])) .e
 .e)
 .e)))
 (.n none (.n none (.n (some ([⟨0, [], []⟩, ⟨1, [], []⟩, ⟨2, [], []⟩, ⟨3, [], []⟩, ⟨4, [], []⟩, ⟨5, [], []⟩, ⟨6, [], []⟩, ⟨7, [], []⟩, ⟨8, [], []⟩, ⟨9, [], []⟩, ⟨10, [], []⟩, ⟨11, [], []⟩, ⟨12, [], []⟩, ⟨13, [], []⟩, ⟨14, [], []⟩, ⟨15, [], []⟩])) .e
 .e)
 .e)
 (.n none (.n (some ([⟨0, [], []⟩, ⟨1, [], []⟩, ⟨2, [], []⟩, ⟨3, [], []⟩, ⟨4, [], []⟩, ⟨5, [], []⟩, ⟨6, [], []⟩, ⟨7, [], []⟩, ⟨8, [], []⟩, ⟨9, [], []⟩, ⟨10, [], []⟩, ⟨11, [], []⟩, ⟨12, [], []⟩, ⟨13, [], []⟩, ⟨14, [], []⟩, ⟨15, [], []⟩])) (.n (some ([⟨0, [], []⟩, ⟨1, [], []⟩, ⟨2, [], []⟩, ⟨3, [], []⟩, ⟨4, [], []⟩, ⟨5, [], []⟩, ⟨6, [], []⟩, ⟨7, [], []⟩, ⟨8, [], []⟩, ⟨9, [], []⟩, ⟨10, [], []⟩, ⟨11, [], []⟩, ⟨12, [], []⟩, ⟨13, [], []⟩, ⟨14, [], []⟩, ⟨15, [], []⟩])) .e
 .e)
 .e)
 .e))))) .e .e
noncomputable def Tryz.cF614 : Tr CF := .n (some (mkF Tryz.f614 (.n none (.n (some ([⟨0, [], []⟩, ⟨1, [], []⟩, ⟨2, [], []⟩, ⟨3, [], []⟩, ⟨4, [], []⟩, ⟨5, [], []⟩, ⟨6, [], []⟩, ⟨7, [], []⟩, ⟨8, [], []⟩, ⟨9, [], []⟩, ⟨10, [], []⟩, ⟨11, [], []⟩, ⟨12, [], []⟩, ⟨13, [], []⟩, ⟨14, [], []⟩, ⟨15, [], []⟩])) (.n (some ([⟨0, [], []⟩, ⟨1, [], []⟩, ⟨2, [], []⟩, ⟨3, [], []⟩, ⟨4, [], []⟩, ⟨5, [], []⟩, ⟨6, [], []⟩, ⟨7, [], []⟩, ⟨8, [], []⟩, ⟨9, [], []⟩, ⟨10, [], []⟩, ⟨11, [], []⟩, ⟨12, [], []⟩, ⟨13, [], []⟩, ⟨14, [], []⟩, ⟨15, [], []⟩, ⟨16, [], []⟩])) .e
 .e)
 (.n (some ([⟨0, [], []⟩, ⟨1, [], []⟩, ⟨2, [], []⟩, ⟨3, [], []⟩, ⟨4, [], []⟩, ⟨5, [], []⟩, ⟨6, [], []⟩, ⟨7, [], []⟩, ⟨8, [], []⟩, ⟨9, [], []⟩, ⟨10, [], []⟩, ⟨11, [], []⟩, ⟨12, [], []⟩, ⟨13, [], []⟩, ⟨14, [], []⟩, ⟨15, [], []⟩])) .e
 .e))
 (.n none (.n none (.n (some ([⟨0, [], []⟩, ⟨1, [], []⟩, ⟨2, [], []⟩, ⟨3, [], []⟩, ⟨4, [], []⟩, ⟨5, [], []⟩, ⟨6, [], []⟩, ⟨7, [], []⟩, ⟨8, [], []⟩, ⟨9, [], []⟩, ⟨10, [], []⟩, ⟨11, [], []⟩, ⟨12, [], []⟩, ⟨13, [], []⟩, ⟨14, [], []⟩, ⟨15, [], []⟩])) .e
 .e)
 .e)
 .e)))) .e .e
noncomputable def Tryz.cF613 : Tr CF := .n (some (mkF Tryz.f613 (.n none (.n none (.n none (.n none .e
 (.n (some ([⟨0, [], []⟩, ⟨1, [], []⟩, ⟨2, [], []⟩, ⟨3, [], []⟩, ⟨4, [], []⟩, ⟨5, [], []⟩, ⟨6, [], []⟩, ⟨7, [], []⟩, ⟨8, [], []⟩, ⟨9, [], []⟩, ⟨10, [], []⟩, ⟨11, [], []⟩, ⟨12, [], []⟩, ⟨13, [], []⟩, ⟨14, [], []⟩, ⟨15, [], []⟩, ⟨16, [], []⟩, ⟨17, [], []⟩])) .e
 .e))
 (.n (some ([⟨0, [], []⟩, ⟨1, [], []⟩, ⟨2, [], []⟩, ⟨3, [], []⟩, ⟨4, [], []⟩, ⟨5, [], []⟩, ⟨6, [], []⟩, ⟨7, [], []⟩, ⟨8, [], []⟩, ⟨9, [], []⟩, ⟨10, [], []⟩, ⟨11, [], []⟩, ⟨12, [], []⟩, ⟨13, [], []⟩, ⟨14, [], []⟩, ⟨15, [], []⟩, ⟨16, [], []⟩, ⟨17, [], []⟩])) .e
 .e))
 (.n (some ([⟨0, [], []⟩, ⟨1, [], []⟩, ⟨2, [], []⟩, ⟨3, [], []⟩, ⟨4, [], []⟩, ⟨5, [], []⟩, ⟨6, [], []⟩, ⟨7, [], []⟩, ⟨8, [], []⟩, ⟨9, [], []⟩, ⟨10, [], []⟩, ⟨11, [], []⟩, ⟨12, [], []⟩, ⟨13, [], []⟩, ⟨14, [], []⟩, ⟨15, [], []⟩, ⟨16, [], []⟩, ⟨17, [], []⟩])) (.n none (.n (some ([⟨0, [], []⟩, ⟨1, [], []⟩, ⟨2, [], []⟩, ⟨3, [], []⟩, ⟨4, [], []⟩, ⟨5, [], []⟩, ⟨6, [], []⟩, ⟨7, [], []⟩, ⟨8, [], []⟩, ⟨9, [], []⟩, ⟨10, [], []⟩, ⟨11, [], []⟩, ⟨12, [], []⟩, ⟨13, [], []⟩, ⟨14, [], []⟩, ⟨15, [], []⟩, ⟨16, [], []⟩, ⟨17, [], []⟩])) .e
 .e)
 .e)
 .e))
 (.n none (.n none (.n none (.n (some ([⟨0, [], []⟩, ⟨1, [], []⟩, ⟨2, [], []⟩, ⟨3, [], []⟩, ⟨4, [], []⟩, ⟨5, [], []⟩, ⟨6, [], []⟩, ⟨7, [], []⟩, ⟨8, [], []⟩, ⟨9, [], []⟩, ⟨10, [], []⟩, ⟨11, [], []⟩, ⟨12, [], []⟩])) .e
 .e)
 .e)
 .e)
 (.n none .e
 (.n none (.n (some ([⟨0, [], []⟩, ⟨1, [], []⟩, ⟨2, [], []⟩, ⟨3, [], []⟩, ⟨4, [], []⟩, ⟨5, [], []⟩, ⟨6, [], []⟩, ⟨7, [], []⟩, ⟨8, [], []⟩, ⟨9, [], []⟩, ⟨10, [], []⟩, ⟨11, [], []⟩, ⟨12, [], []⟩])) .e
 .e)
 .e)))))) .e .e
noncomputable def Tryz.cF612 : Tr CF := .n (some (mkF Tryz.f612 (.n none (.n none (.n (some ([⟨0, [], []⟩, ⟨1, [], []⟩, ⟨2, [], []⟩, ⟨3, [], []⟩, ⟨4, [], []⟩, ⟨5, [], []⟩, ⟨6, [], []⟩, ⟨7, [], []⟩, ⟨8, [], []⟩, ⟨9, [], []⟩, ⟨10, [], []⟩, ⟨11, [], []⟩, ⟨12, [], []⟩, ⟨13, [], []⟩, ⟨14, [], []⟩, ⟨15, [], []⟩])) .e
 .e)
 .e)
 .e))) .e .e
noncomputable def Tryz.cF611 : Tr CF := .n (some (mkF Tryz.f611 (.e))) .e .e
noncomputable def Tryz.cF610 : Tr CF := .n (some (mkF Tryz.f610 (.n none .e
 (.n none .e
 (.n none (.n (some ([⟨0, [], []⟩, ⟨1, [], []⟩, ⟨2, [], []⟩, ⟨3, [], []⟩, ⟨4, [], []⟩, ⟨5, [], []⟩, ⟨6, [], []⟩, ⟨7, [], []⟩, ⟨8, [], []⟩, ⟨9, [], []⟩, ⟨10, [], []⟩, ⟨11, [], []⟩, ⟨12, [], []⟩, ⟨13, [], []⟩, ⟨14, [], []⟩, ⟨15, [], []⟩, ⟨16, [], []⟩, ⟨17, [], []⟩, ⟨18, [], []⟩, ⟨19, [], []⟩])) .e
 .e)
 .e))))) .e .e
noncomputable def Tryz.cF609 : Tr CF := .n (some (mkF Tryz.f609 (.n none .e
 (.n none .e
 (.n none (.n (some ([⟨0, [], []⟩, ⟨1, [], []⟩, ⟨2, [], []⟩, ⟨3, [], []⟩, ⟨4, [], []⟩, ⟨5, [], []⟩, ⟨6, [], []⟩, ⟨7, [], []⟩, ⟨8, [], []⟩, ⟨9, [], []⟩, ⟨10, [], []⟩, ⟨11, [], []⟩, ⟨12, [], []⟩, ⟨13, [], []⟩, ⟨14, [], []⟩, ⟨15, [], []⟩, ⟨16, [], []⟩, ⟨17, [], []⟩, ⟨18, [], []⟩, ⟨19, [], []⟩])) .e
 .e)
 .e))))) .e .e
noncomputable def Tryz.cF608 : Tr CF := .n (some (mkF Tryz.f608 (.n none .e
 (.n none (.n (some ([⟨0, [], []⟩, ⟨1, [], []⟩, ⟨2, [], []⟩, ⟨3, [], []⟩, ⟨4, [], []⟩, ⟨5, [], []⟩, ⟨6, [], []⟩, ⟨7, [], []⟩, ⟨8, [], []⟩, ⟨9, [], []⟩, ⟨10, [], []⟩, ⟨11, [], []⟩, ⟨12, [], []⟩, ⟨13, [], []⟩, ⟨14, [], []⟩, ⟨15, [], []⟩, ⟨16, [], []⟩])) .e
 .e)
 (.n (some ([⟨0, [], []⟩, ⟨1, [], []⟩, ⟨2, [], []⟩, ⟨3, [], []⟩, ⟨4, [], []⟩, ⟨5, [], []⟩, ⟨6, [], []⟩, ⟨7, [], []⟩, ⟨8, [], []⟩, ⟨9, [], []⟩, ⟨10, [], []⟩, ⟨11, [], []⟩, ⟨12, [], []⟩, ⟨13, [], []⟩, ⟨14, [], []⟩, ⟨15, [], []⟩, ⟨16, [], []⟩, ⟨17, [], []⟩])) .e
 .e))))) .e .e
noncomputable def Tryz.cF607 : Tr CF := .n (some (mkF Tryz.f607 (.e))) .e .e
noncomputable def Tryz.cF606 : Tr CF := .n (some (mkF Tryz.f606 (.e))) .e .e
noncomputable def Tryz.cF605 : Tr CF := .n (some (mkF Tryz.f605 (.n none (.n none (.n none (.n (some ([⟨0, [], []⟩, ⟨1, [], []⟩, ⟨2, [], []⟩, ⟨3, [], []⟩, ⟨4, [], []⟩, ⟨5, [], []⟩, ⟨6, [], []⟩, ⟨7, [], []⟩, ⟨8, [], []⟩, ⟨9, [2], []⟩, ⟨10, [], []⟩])) .e
 .e)
 .e)
 .e)
 .e))) .e .e
noncomputable def Tryz.cF604 : Tr CF := .n (some (mkF Tryz.f604 (.e))) .e .e
noncomputable def Tryz.cF603 : Tr CF := .n (some (mkF Tryz.f603 (.n none .e
 (.n none .e
 (.n (some ([⟨0, [], []⟩, ⟨1, [], []⟩, ⟨2, [], []⟩, ⟨3, [], []⟩, ⟨4, [], []⟩, ⟨5, [], []⟩])) .e
 .e))))) .e .e
noncomputable def Tryz.cF602 : Tr CF := .n (some (mkF Tryz.f602 (.n none .e
 (.n none .e
 (.n (some ([⟨0, [], []⟩, ⟨1, [], []⟩, ⟨2, [], []⟩, ⟨3, [], []⟩, ⟨4, [], []⟩, ⟨5, [], []⟩, ⟨6, [], []⟩, ⟨7, [], []⟩, ⟨8, [], []⟩, ⟨9, [], []⟩, ⟨10, [], []⟩, ⟨11, [], []⟩, ⟨12, [6, 9], []⟩, ⟨13, [], []⟩])) .e
 .e))))) .e .e
noncomputable def Tryz.cF601 : Tr CF := .n (some (mkF Tryz.f601 (.e))) .e .e
noncomputable def Tryz.cF600 : Tr CF := .n (some (mkF Tryz.f600 (.e))) .e .e
noncomputable def Tryz.cF599 : Tr CF := .n (some (mkF Tryz.f599 (.e))) .e .e
noncomputable def Tryz.cF598 : Tr CF := .n (some (mkF Tryz.f598 (.n none (.n none (.n (some ([⟨0, [], []⟩, ⟨1, [], []⟩, ⟨2, [], []⟩, ⟨3, [], []⟩, ⟨4, [], []⟩, ⟨5, [], []⟩, ⟨6, [], []⟩, ⟨7, [], []⟩, ⟨8, [], []⟩, ⟨9, [], []⟩, ⟨10, [], []⟩, ⟨11, [], []⟩, ⟨12, [], []⟩, ⟨13, [], []⟩, ⟨14, [], []⟩, ⟨15, [], []⟩, ⟨16, [], []⟩, ⟨17, [], []⟩, ⟨18, [], []⟩, ⟨19, [], []⟩, ⟨20, [], []⟩, ⟨21, [], []⟩])) .e
 .e)
 (.n (some ([⟨0, [], []⟩, ⟨1, [], []⟩, ⟨2, [], []⟩, ⟨3, [], []⟩, ⟨4, [], []⟩, ⟨5, [], []⟩, ⟨6, [], []⟩, ⟨7, [], []⟩, ⟨8, [], []⟩, ⟨9, [], []⟩, ⟨10, [], []⟩, ⟨11, [], []⟩, ⟨12, [], []⟩, ⟨13, [], []⟩, ⟨14, [], []⟩, ⟨15, [], []⟩])) .e
 .e))
 (.n none .e
 (.n (some ([⟨0, [], []⟩, ⟨1, [], []⟩, ⟨2, [], []⟩, ⟨3, [], []⟩, ⟨4, [], []⟩, ⟨5, [], []⟩, ⟨6, [], []⟩, ⟨7, [], []⟩, ⟨8, [], []⟩, ⟨9, [], []⟩, ⟨10, [], []⟩, ⟨11, [], []⟩, ⟨12, [], []⟩, ⟨13, [], []⟩, ⟨14, [], []⟩, ⟨15, [], []⟩, ⟨16, [], []⟩, ⟨17, [], []⟩, ⟨18, [], []⟩, ⟨19, [], []⟩, ⟨20, [], []⟩, ⟨21, [], []⟩, ⟨22, [], []⟩, ⟨23, [], []⟩])) .e
 .e))))) .e .e
noncomputable def Tryz.cF597 : Tr CF := .n (some (mkF Tryz.f597 (.e))) .e .e
noncomputable def Tryz.cF596 : Tr CF := .n (some (mkF Tryz.f596 (.e))) .e .e
noncomputable def Tryz.cF595 : Tr CF := .n (some (mkF Tryz.f595 (.n none (.n (some ([⟨0, [], []⟩, ⟨1, [], []⟩, ⟨2, [], []⟩, ⟨3, [], []⟩, ⟨9, [], []⟩, ⟨4, [2, 9], []⟩, ⟨5, [], []⟩, ⟨6, [], []⟩, ⟨7, [], []⟩, ⟨8, [], []⟩, ⟨10, [2, 8], []⟩, ⟨11, [], []⟩, ⟨12, [], []⟩, ⟨13, [], []⟩, ⟨14, [], []⟩])) .e
 .e)
 .e))) .e .e
noncomputable def Tryz.cF594 : Tr CF := .n (some (mkF Tryz.f594 (.n none (.n (some ([⟨0, [], []⟩, ⟨2, [], []⟩, ⟨1, [2], []⟩, ⟨3, [], []⟩, ⟨4, [], []⟩, ⟨5, [], []⟩, ⟨6, [], []⟩, ⟨7, [], []⟩])) .e
 .e)
 .e))) .e .e
noncomputable def Tryz.cF593 : Tr CF := .n (some (mkF Tryz.f593 (.e))) .e .e
noncomputable def Tryz.cF592 : Tr CF := .n (some (mkF Tryz.f592 (.e))) .e .e
noncomputable def Tryz.cF591 : Tr CF := .n (some (mkF Tryz.f591 (.n none .e
 (.n none .e
 (.n (some ([⟨0, [], []⟩, ⟨2, [], []⟩, ⟨1, [2], []⟩, ⟨3, [], []⟩, ⟨4, [], []⟩, ⟨5, [], []⟩, ⟨6, [], []⟩, ⟨7, [], []⟩])) .e
 .e))))) .e .e
noncomputable def Tryz.cF590 : Tr CF := .n (some (mkF Tryz.f590 (.e))) .e .e
noncomputable def Tryz.cF589 : Tr CF := .n (some (mkF Tryz.f589 (.e))) .e .e
noncomputable def Tryz.cF588 : Tr CF := .n (some (mkF Tryz.f588 (.n none (.n none (.n none (.n (some ([⟨0, [], []⟩, ⟨1, [], []⟩, ⟨2, [], []⟩, ⟨3, [], []⟩, ⟨4, [], []⟩, ⟨5, [], []⟩, ⟨6, [], []⟩, ⟨7, [], []⟩, ⟨8, [], []⟩, ⟨9, [], []⟩, ⟨10, [], []⟩, ⟨11, [], []⟩, ⟨12, [], []⟩, ⟨13, [], []⟩, ⟨14, [], []⟩, ⟨15, [], []⟩, ⟨16, [], []⟩, ⟨17, [], []⟩, ⟨18, [], []⟩, ⟨19, [], []⟩, ⟨20, [], []⟩, ⟨21, [], []⟩, ⟨22, [], []⟩, ⟨23, [], []⟩, ⟨24, [], []⟩, ⟨25, [], []⟩, ⟨26, [], []⟩, ⟨27, [], []⟩, ⟨28, [], []⟩, ⟨29, [], []⟩, ⟨30, [], []⟩, ⟨31, [], []⟩, ⟨32, [], []⟩, ⟨33, [], []⟩, ⟨34, [], []⟩, ⟨35, [], []⟩, ⟨36, [], []⟩, ⟨37, [], []⟩, ⟨38, [], []⟩])) .e
 .e)
 .e)
 .e)
 .e))) .e .e
noncomputable def Tryz.cF587 : Tr CF := .n (some (mkF Tryz.f587 (.n none (.n (some ([⟨0, [], []⟩, ⟨1, [], []⟩, ⟨2, [], []⟩, ⟨3, [], []⟩, ⟨4, [], []⟩, ⟨5, [], []⟩, ⟨6, [], []⟩, ⟨7, [], []⟩, ⟨8, [], []⟩, ⟨9, [], []⟩, ⟨10, [], []⟩])) .e
 .e)
 .e))) .e .e
noncomputable def Tryz.cF586 : Tr CF := .n (some (mkF Tryz.f586 (.e))) .e .e
noncomputable def Tryz.cF585 : Tr CF := .n (some (mkF Tryz.f585 (.e))) .e .e
noncomputable def Tryz.cF584 : Tr CF := .n (some (mkF Tryz.f584 (.e))) .e .e
noncomputable def Tryz.cF583 : Tr CF := .n (some (mkF Tryz.f583 (.e))) .e .e
noncomputable def Tryz.cF582 : Tr CF := .n (some (mkF Tryz.f582 (.e))) .e .e
noncomputable def Tryz.cF581 : Tr CF := .n (some (mkF Tryz.f581 (.e))) .e .e
noncomputable def Tryz.cF580 : Tr CF := .n (some (mkF Tryz.f580 (.e))) .e .e
noncomputable def Tryz.cF579 : Tr CF := .n (some (mkF Tryz.f579 (.n none (.n (some ([⟨0, [], []⟩, ⟨1, [], []⟩, ⟨2, [], []⟩, ⟨3, [], []⟩, ⟨4, [], []⟩, ⟨5, [], []⟩, ⟨6, [], []⟩, ⟨7, [], []⟩, ⟨8, [], []⟩, ⟨9, [], []⟩, ⟨10, [], []⟩, ⟨11, [], []⟩, ⟨12, [], []⟩, ⟨13, [], []⟩])) (.n (some ([⟨0, [], []⟩, ⟨1, [], []⟩, ⟨2, [], []⟩, ⟨3, [], []⟩, ⟨4, [], []⟩, ⟨5, [], []⟩, ⟨6, [], []⟩, ⟨7, [], []⟩, ⟨8, [], []⟩, ⟨9, [], []⟩])) .e
 .e)
 .e)
 .e))) .e .e
noncomputable def Tryz.cF578 : Tr CF := .n (some (mkF Tryz.f578 (.e))) .e .e
noncomputable def Tryz.cF577 : Tr CF := .n (some (mkF Tryz.f577 (.e))) .e .e
noncomputable def Tryz.cF576 : Tr CF := .n (some (mkF Tryz.f576 (.e))) .e .e
noncomputable def Tryz.cF575 : Tr CF := .n (some (mkF Tryz.f575 (.n none (.n none (.n (some ([⟨0, [], []⟩, ⟨1, [], []⟩, ⟨2, [], []⟩, ⟨3, [], []⟩, ⟨4, [], []⟩, ⟨5, [], []⟩, ⟨6, [], []⟩, ⟨7, [], []⟩, ⟨8, [], []⟩, ⟨9, [], []⟩, ⟨10, [], []⟩, ⟨11, [], []⟩, ⟨12, [], []⟩, ⟨13, [], []⟩, ⟨14, [], []⟩, ⟨15, [], []⟩, ⟨16, [], []⟩, ⟨17, [], []⟩, ⟨18, [], []⟩, ⟨19, [], []⟩])) .e
 .e)
 (.n (some ([⟨0, [], []⟩, ⟨1, [], []⟩, ⟨2, [], []⟩, ⟨3, [], []⟩, ⟨4, [], []⟩, ⟨5, [], []⟩, ⟨6, [], []⟩, ⟨7, [], []⟩, ⟨8, [], []⟩, ⟨9, [], []⟩, ⟨10, [], []⟩, ⟨11, [], []⟩, ⟨12, [], []⟩, ⟨13, [], []⟩])) .e
 .e))
 (.n none .e
 (.n (some ([⟨0, [], []⟩, ⟨1, [], []⟩, ⟨2, [], []⟩, ⟨3, [], []⟩, ⟨4, [], []⟩, ⟨5, [], []⟩, ⟨6, [], []⟩, ⟨7, [], []⟩, ⟨8, [], []⟩, ⟨9, [], []⟩, ⟨10, [], []⟩, ⟨11, [], []⟩, ⟨12, [], []⟩, ⟨13, [], []⟩, ⟨14, [], []⟩, ⟨15, [], []⟩, ⟨16, [], []⟩, ⟨17, [], []⟩, ⟨18, [], []⟩, ⟨19, [], []⟩, ⟨20, [], []⟩, ⟨21, [], []⟩, ⟨22, [], []⟩, ⟨23, [], []⟩])) .e
 .e))))) .e .e
noncomputable def Tryz.cF574 : Tr CF := .n (some (mkF Tryz.f574 (.n none .e
 (.n none (.n none (.n (some ([⟨0, [], []⟩, ⟨1, [], []⟩, ⟨2, [], []⟩, ⟨3, [], []⟩, ⟨4, [], []⟩, ⟨5, [], []⟩, ⟨6, [], []⟩])) .e
 .e)
 .e)
 .e)))) .e .e
noncomputable def Tryz.cF573 : Tr CF := .n (some (mkF Tryz.f573 (.n none (.n (some ([⟨0, [], []⟩, ⟨1, [], []⟩, ⟨2, [], []⟩, ⟨3, [], []⟩, ⟨4, [], []⟩, ⟨5, [], []⟩, ⟨6, [], []⟩, ⟨7, [], []⟩])) .e
 .e)
 .e))) .e .e
noncomputable def Tryz.cF572 : Tr CF := .n (some (mkF Tryz.f572 (.e))) .e .e
noncomputable def Tryz.cF571 : Tr CF := .n (some (mkF Tryz.f571 (.n none .e
 (.n (some ([⟨0, [], []⟩, ⟨1, [], []⟩, ⟨3, [], []⟩, ⟨2, [3], []⟩, ⟨4, [], []⟩, ⟨5, [], []⟩, ⟨6, [], []⟩])) .e
 .e)))) .e .e
noncomputable def Tryz.cF570 : Tr CF := .n (some (mkF Tryz.f570 (.n none (.n none (.n none (.n none (.n (some ([⟨0, [], []⟩, ⟨1, [], []⟩, ⟨2, [], []⟩, ⟨3, [], []⟩, ⟨4, [], []⟩, ⟨5, [], []⟩, ⟨6, [], []⟩, ⟨7, [], []⟩, ⟨8, [], []⟩, ⟨9, [], []⟩, ⟨10, [5], []⟩, ⟨11, [], []⟩, ⟨12, [], []⟩])) .e
 .e)
 .e)
 .e)
 (.n (some ([⟨0, [], []⟩, ⟨1, [], []⟩, ⟨2, [], []⟩, ⟨3, [], []⟩, ⟨4, [], []⟩, ⟨5, [], []⟩, ⟨6, [], []⟩, ⟨7, [], []⟩, ⟨8, [], []⟩, ⟨9, [], []⟩, ⟨10, [], []⟩, ⟨11, [], []⟩, ⟨12, [], []⟩, ⟨13, [], []⟩, ⟨14, [], []⟩, ⟨15, [], []⟩, ⟨16, [], []⟩, ⟨17, [], []⟩])) .e
 .e))
 (.n none (.n none .e
 (.n none (.n (some ([⟨0, [], []⟩, ⟨1, [], []⟩, ⟨2, [], []⟩, ⟨3, [], []⟩, ⟨4, [], []⟩, ⟨5, [], []⟩, ⟨6, [], []⟩, ⟨7, [], []⟩, ⟨8, [], []⟩, ⟨9, [], []⟩])) .e
 .e)
 .e))
 (.n none .e
 (.n (some ([⟨0, [], []⟩, ⟨1, [], []⟩, ⟨2, [], []⟩, ⟨3, [], []⟩, ⟨4, [], []⟩, ⟨5, [], []⟩, ⟨6, [], []⟩, ⟨7, [], []⟩, ⟨8, [], []⟩, ⟨9, [], []⟩, ⟨10, [], []⟩, ⟨11, [], []⟩, ⟨12, [], []⟩, ⟨13, [], []⟩, ⟨14, [], []⟩])) .e
 .e)))))) .e .e
noncomputable def Tryz.cF569 : Tr CF := .n (some (mkF Tryz.f569 (.n none (.n none .e
 (.n (some ([⟨0, [], []⟩, ⟨1, [], []⟩, ⟨2, [], []⟩, ⟨3, [], []⟩, ⟨4, [], []⟩, ⟨5, [], []⟩, ⟨6, [], []⟩, ⟨7, [], []⟩, ⟨8, [], []⟩, ⟨9, [], []⟩, ⟨10, [], []⟩])) .e
 .e))
 (.n none .e
 (.n (some ([⟨0, [], []⟩, ⟨1, [], []⟩, ⟨2, [], []⟩, ⟨3, [], []⟩, ⟨4, [], []⟩, ⟨5, [], []⟩, ⟨6, [], []⟩, ⟨7, [], []⟩, ⟨8, [], []⟩, ⟨9, [], []⟩, ⟨10, [], []⟩, ⟨11, [], []⟩, ⟨12, [], []⟩])) .e
 .e))))) .e .e
noncomputable def Tryz.cF568 : Tr CF := .n (some (mkF Tryz.f568 (.n none (.n (some ([⟨0, [], []⟩, ⟨1, [], []⟩, ⟨2, [], []⟩, ⟨3, [], []⟩, ⟨4, [], []⟩, ⟨5, [], []⟩, ⟨6, [], []⟩, ⟨7, [], []⟩, ⟨8, [], []⟩, ⟨9, [], []⟩, ⟨10, [], []⟩, ⟨11, [], []⟩, ⟨12, [], []⟩, ⟨13, [], []⟩, ⟨14, [], []⟩, ⟨15, [], []⟩, ⟨16, [10, 13], []⟩, ⟨17, [], []⟩])) .e
 .e)
 (.n (some ([⟨0, [], []⟩, ⟨1, [], []⟩, ⟨2, [], []⟩, ⟨3, [], []⟩, ⟨4, [], []⟩, ⟨5, [], []⟩, ⟨6, [], []⟩, ⟨7, [], []⟩, ⟨8, [], []⟩])) (.n (some ([⟨0, [], []⟩, ⟨1, [], []⟩, ⟨2, [], []⟩, ⟨3, [], []⟩, ⟨4, [], []⟩, ⟨5, [], []⟩, ⟨6, [], []⟩, ⟨7, [], []⟩, ⟨8, [], []⟩])) .e
 .e)
 .e)))) .e .e
noncomputable def Tryz.cF567 : Tr CF := .n (some (mkF Tryz.f567 (.n none (.n (some ([⟨0, [], []⟩, ⟨1, [], []⟩, ⟨2, [], []⟩, ⟨3, [], []⟩, ⟨4, [], []⟩, ⟨5, [], []⟩, ⟨6, [], []⟩, ⟨7, [], []⟩, ⟨8, [], []⟩, ⟨9, [], []⟩, ⟨10, [], []⟩, ⟨11, [], []⟩, ⟨12, [], []⟩, ⟨13, [], []⟩, ⟨14, [], []⟩, ⟨15, [], []⟩, ⟨16, [], []⟩, ⟨17, [], []⟩, ⟨18, [], []⟩, ⟨19, [], []⟩, ⟨20, [], []⟩, ⟨21, [], []⟩, ⟨22, [], []⟩, ⟨23, [], []⟩])) .e
 .e)
 .e))) .e .e
noncomputable def Tryz.cF566 : Tr CF := .n (some (mkF Tryz.f566 (.n none (.n (some ([⟨0, [], []⟩, ⟨1, [], []⟩, ⟨2, [], []⟩, ⟨3, [], []⟩, ⟨4, [], []⟩, ⟨5, [], []⟩, ⟨6, [], []⟩, ⟨7, [], []⟩])) .e
 .e)
 .e))) .e .e
noncomputable def Tryz.cF565 : Tr CF := .n (some (mkF Tryz.f565 (.e))) .e .e
noncomputable def Tryz.cF564 : Tr CF := .n (some (mkF Tryz.f564 (.e))) .e .e
noncomputable def Tryz.cF563 : Tr CF := .n (some (mkF Tryz.f563 (.n none (.n (some ([⟨0, [], []⟩, ⟨1, [], []⟩, ⟨2, [], []⟩, ⟨3, [], []⟩, ⟨4, [], []⟩, ⟨5, [], []⟩, ⟨6, [], []⟩, ⟨7, [], []⟩, ⟨8, [], []⟩, ⟨9, [], []⟩, ⟨10, [], []⟩, ⟨11, [], []⟩, ⟨12, [], []⟩, ⟨13, [], []⟩, ⟨14, [], []⟩, ⟨15, [], []⟩, ⟨16, [], []⟩, ⟨17, [], []⟩, ⟨18, [], []⟩, ⟨19, [], []⟩, ⟨20, [], []⟩, ⟨21, [], []⟩, ⟨22, [], []⟩, ⟨23, [], []⟩, ⟨24, [], []⟩, ⟨25, [], []⟩, ⟨26, [], []⟩, ⟨27, [], []⟩, ⟨28, [], []⟩, ⟨29, [], []⟩, ⟨30, [], []⟩, ⟨31, [], []⟩, ⟨32, [], []⟩, ⟨33, [], []⟩, ⟨34, [], []⟩, ⟨35, [], []⟩, ⟨36, [], []⟩, ⟨37, [], []⟩, ⟨38, [], []⟩, ⟨39, [], []⟩, ⟨40, [], []⟩, ⟨41, [], []⟩, ⟨42, [], []⟩, ⟨43, [], []⟩, ⟨44, [], []⟩, ⟨45, [], []⟩, ⟨46, [], []⟩, ⟨47, [], []⟩, ⟨48, [], []⟩, ⟨49, [], []⟩, ⟨50, [], []⟩, ⟨51, [], []⟩, ⟨52, [], []⟩, ⟨53, [], []⟩, ⟨54, [], []⟩, ⟨55, [], []⟩, ⟨56, [], []⟩, ⟨57, [], []⟩, ⟨58, [], []⟩, ⟨59, [], []⟩, ⟨60, [], []⟩, ⟨61, [], []⟩, ⟨62, [], []⟩, ⟨63, [], []⟩, ⟨64, [], []⟩, ⟨65, [], []⟩, ⟨66, [], []⟩])) .e
 .e)
 .e))) .e .e
noncomputable def Tryz.cF562 : Tr CF := .n (some (mkF Tryz.f562 (.n none (.n (some ([⟨0, [], []⟩, ⟨1, [], []⟩, ⟨2, [], []⟩, ⟨3, [], []⟩, ⟨4, [], []⟩, ⟨5, [], []⟩, ⟨6, [], []⟩, ⟨7, [], []⟩, ⟨8, [], []⟩, ⟨9, [], []⟩])) .e
 (.n (some ([⟨0, [], []⟩, ⟨1, [], []⟩, ⟨2, [], []⟩, ⟨3, [], []⟩, ⟨4, [], []⟩, ⟨5, [], []⟩, ⟨6, [], []⟩, ⟨7, [], []⟩, ⟨8, [], []⟩, ⟨9, [], []⟩, ⟨10, [], []⟩, ⟨11, [], []⟩, ⟨12, [], []⟩, ⟨13, [], []⟩, ⟨14, [], []⟩, ⟨15, [], []⟩])) .e
 .e))
 (.n none .e
 (.n (some ([⟨0, [], []⟩, ⟨1, [], []⟩, ⟨2, [], []⟩, ⟨3, [], []⟩, ⟨4, [], []⟩, ⟨5, [], []⟩, ⟨6, [], []⟩, ⟨7, [], []⟩, ⟨8, [], []⟩, ⟨9, [], []⟩, ⟨10, [], []⟩, ⟨11, [], []⟩, ⟨12, [], []⟩, ⟨13, [], []⟩, ⟨14, [], []⟩, ⟨15, [], []⟩, ⟨16, [], []⟩, ⟨17, [], []⟩, ⟨18, [], []⟩, ⟨19, [], []⟩])) .e
 .e))))) .e .e
noncomputable def Tryz.cF561 : Tr CF := .n (some (mkF Tryz.f561 (.n none (.n (some ([⟨0, [], []⟩, ⟨1, [], []⟩, ⟨2, [], []⟩, ⟨3, [], []⟩, ⟨4, [], []⟩, ⟨5, [], []⟩, ⟨6, [], []⟩, ⟨7, [], []⟩, ⟨8, [], []⟩, ⟨9, [], []⟩, ⟨10, [], []⟩, ⟨11, [], []⟩, ⟨12, [], []⟩, ⟨13, [], []⟩, ⟨14, [], []⟩])) .e
 .e)
 .e))) .e .e
noncomputable def Tryz.cF560 : Tr CF := .n (some (mkF Tryz.f560 (.n none (.n (some ([⟨0, [], []⟩, ⟨1, [], []⟩, ⟨2, [], []⟩, ⟨3, [], []⟩, ⟨4, [], []⟩, ⟨5, [], []⟩, ⟨6, [], []⟩, ⟨7, [], []⟩, ⟨8, [], []⟩, ⟨9, [], []⟩, ⟨10, [], []⟩, ⟨11, [], []⟩, ⟨12, [], []⟩])) .e
 (.n (some ([⟨0, [], []⟩, ⟨1, [], []⟩, ⟨2, [], []⟩, ⟨3, [], []⟩, ⟨4, [], []⟩, ⟨5, [], []⟩, ⟨6, [], []⟩, ⟨7, [], []⟩, ⟨8, [], []⟩, ⟨9, [], []⟩, ⟨10, [], []⟩, ⟨11, [], []⟩, ⟨12, [], []⟩, ⟨13, [], []⟩, ⟨14, [], []⟩, ⟨15, [], []⟩, ⟨16, [], []⟩, ⟨17, [], []⟩, ⟨18, [], []⟩, ⟨19, [], []⟩, ⟨20, [], []⟩])) .e
 .e))
 (.n (some ([⟨0, [], []⟩, ⟨1, [], []⟩, ⟨2, [], []⟩, ⟨3, [], []⟩, ⟨4, [], []⟩, ⟨5, [], []⟩, ⟨6, [], []⟩, ⟨7, [], []⟩, ⟨8, [], []⟩, ⟨9, [], []⟩, ⟨10, [], []⟩, ⟨11, [], []⟩, ⟨12, [], []⟩])) (.n (some ([⟨0, [], []⟩, ⟨1, [], []⟩, ⟨2, [], []⟩, ⟨3, [], []⟩, ⟨4, [], []⟩, ⟨6, [], []⟩, ⟨7, [], []⟩, ⟨8, [], []⟩, ⟨9, [], []⟩, ⟨5, [9], []⟩, ⟨10, [], []⟩, ⟨11, [], []⟩, ⟨12, [], []⟩, ⟨13, [], []⟩, ⟨14, [], []⟩])) .e
 .e)
 (.n (some ([⟨0, [], []⟩, ⟨1, [], []⟩, ⟨2, [], []⟩, ⟨3, [], []⟩, ⟨4, [], []⟩, ⟨5, [], []⟩, ⟨6, [], []⟩, ⟨7, [], []⟩, ⟨8, [], []⟩, ⟨9, [], []⟩, ⟨10, [], []⟩, ⟨11, [], []⟩, ⟨12, [], []⟩, ⟨13, [], []⟩, ⟨14, [], []⟩, ⟨15, [], []⟩, ⟨16, [], []⟩, ⟨17, [], []⟩, ⟨18, [], []⟩, ⟨19, [], []⟩, ⟨20, [], []⟩, ⟨21, [], []⟩, ⟨22, [], []⟩, ⟨23, [], []⟩, ⟨24, [], []⟩, ⟨25, [], []⟩, ⟨26, [], []⟩, ⟨27, [], []⟩])) .e
 .e))))) .e .e
noncomputable def Tryz.cF559 : Tr CF := .n (some (mkF Tryz.f559 (.n none (.n none .e
 (.n none (.n none (.n (some ([⟨0, [], []⟩, ⟨1, [], []⟩, ⟨2, [], []⟩, ⟨3, [], []⟩, ⟨4, [], []⟩, ⟨5, [], []⟩, ⟨6, [], []⟩, ⟨7, [], []⟩, ⟨8, [], []⟩, ⟨9, [], []⟩, ⟨10, [], []⟩, ⟨11, [], []⟩, ⟨12, [], []⟩, ⟨13, [], []⟩, ⟨14, [], []⟩, ⟨15, [], []⟩, ⟨16, [], []⟩])) .e
 .e)
 .e)
 .e))
 .e))) .e .e
noncomputable def Tryz.cF558 : Tr CF := .n (some (mkF Tryz.f558 (.e))) .e .e
noncomputable def Tryz.cF557 : Tr CF := .n (some (mkF Tryz.f557 (.e))) .e .e
noncomputable def Tryz.cF556 : Tr CF := .n (some (mkF Tryz.f556 (.e))) .e .e
noncomputable def Tryz.cF555 : Tr CF := .n (some (mkF Tryz.f555 (.e))) .e .e
noncomputable def Tryz.cF554 : Tr CF := .n (some (mkF Tryz.f554 (.n none (.n none (.n none (.n (some ([⟨0, [], []⟩, ⟨1, [], []⟩, ⟨2, [], []⟩, ⟨3, [], []⟩, ⟨4, [], []⟩, ⟨5, [], []⟩, ⟨6, [], []⟩, ⟨7, [], []⟩, ⟨8, [], []⟩, ⟨9, [], []⟩, ⟨10, [], []⟩, ⟨11, [], []⟩, ⟨12, [6, 9], []⟩, ⟨13, [], []⟩])) .e
 .e)
 .e)
 .e)
 .e))) .e .e
noncomputable def Tryz.cF553 : Tr CF := .n (some (mkF Tryz.f553 (.e))) .e .e
noncomputable def Tryz.cF552 : Tr CF := .n (some (mkF Tryz.f552 (.e))) .e .e
noncomputable def Tryz.cF551 : Tr CF := .n (some (mkF Tryz.f551 (.e))) .e .e
noncomputable def Tryz.cF550 : Tr CF := .n (some (mkF Tryz.f550 (.e))) .e .e
noncomputable def Tryz.cF549 : Tr CF := .n (some (mkF Tryz.f549 (.e))) .e .e
noncomputable def Tryz.cF548 : Tr CF := .n (some (mkF Tryz.f548 (.n none (.n (some ([⟨0, [], []⟩, ⟨1, [], []⟩, ⟨2, [], []⟩, ⟨3, [], []⟩, ⟨4, [], []⟩, ⟨5, [], []⟩, ⟨6, [], []⟩, ⟨7, [], []⟩, ⟨8, [], []⟩, ⟨9, [], []⟩, ⟨10, [], []⟩, ⟨11, [], []⟩, ⟨12, [], []⟩, ⟨13, [], []⟩, ⟨14, [], []⟩, ⟨15, [], []⟩])) (.n (some ([⟨0, [], []⟩, ⟨1, [], []⟩, ⟨2, [], []⟩, ⟨3, [], []⟩, ⟨4, [], []⟩, ⟨5, [], []⟩, ⟨6, [], []⟩, ⟨7, [], []⟩, ⟨8, [], []⟩, ⟨9, [], []⟩, ⟨10, [], []⟩, ⟨11, [], []⟩, ⟨12, [], []⟩, ⟨13, [], []⟩, ⟨14, [], []⟩, ⟨15, [], []⟩])) (.n none (.n (some ([⟨0, [], []⟩, ⟨1, [], []⟩, ⟨2, [], []⟩, ⟨3, [], []⟩, ⟨4, [], []⟩, ⟨5, [], []⟩, ⟨6, [], []⟩, ⟨7, [], []⟩, ⟨8, [], []⟩, ⟨9, [], []⟩, ⟨10, [], []⟩, ⟨11, [], []⟩, ⟨12, [], []⟩, ⟨13, [], []⟩, ⟨14, [], []⟩, ⟨15, [], []⟩, ⟨16, [], []⟩])) .e
 .e)
 .e)
 .e)
 (.n (some ([⟨0, [], []⟩, ⟨1, [], []⟩, ⟨2, [], []⟩, ⟨3, [], []⟩, ⟨4, [], []⟩, ⟨5, [], []⟩, ⟨6, [], []⟩, ⟨7, [], []⟩, ⟨8, [], []⟩, ⟨9, [], []⟩, ⟨10, [], []⟩, ⟨11, [], []⟩, ⟨12, [], []⟩, ⟨13, [], []⟩, ⟨14, [], []⟩, ⟨15, [], []⟩, ⟨16, [], []⟩])) .e
 (.n (some ([⟨0, [], []⟩, ⟨1, [], []⟩, ⟨2, [], []⟩, ⟨3, [], []⟩, ⟨4, [], []⟩, ⟨5, [], []⟩, ⟨6, [], []⟩, ⟨7, [], []⟩, ⟨8, [], []⟩, ⟨9, [], []⟩, ⟨10, [], []⟩, ⟨11, [], []⟩, ⟨12, [], []⟩, ⟨13, [], []⟩, ⟨14, [], []⟩, ⟨15, [], []⟩])) (.n (some ([⟨0, [], []⟩, ⟨1, [], []⟩, ⟨2, [], []⟩, ⟨3, [], []⟩, ⟨4, [], []⟩, ⟨5, [], []⟩, ⟨6, [], []⟩, ⟨7, [], []⟩, ⟨8, [], []⟩, ⟨9, [], []⟩, ⟨10, [], []⟩, ⟨11, [], []⟩, ⟨12, [], []⟩, ⟨13, [], []⟩, ⟨14, [], []⟩, ⟨15, [], []⟩])) .e
 .e)
 .e)))
 (.n none (.n none (.n (some ([⟨0, [], []⟩, ⟨1, [], []⟩, ⟨2, [], []⟩, ⟨3, [], []⟩, ⟨4, [], []⟩, ⟨5, [], []⟩, ⟨6, [], []⟩, ⟨7, [], []⟩, ⟨8, [], []⟩, ⟨9, [], []⟩, ⟨10, [], []⟩, ⟨11, [], []⟩, ⟨12, [], []⟩, ⟨13, [], []⟩, ⟨14, [], []⟩, ⟨15, [], []⟩])) .e
 .e)
 .e)
 (.n none (.n (some ([⟨0, [], []⟩, ⟨1, [], []⟩, ⟨2, [], []⟩, ⟨3, [], []⟩, ⟨4, [], []⟩, ⟨5, [], []⟩, ⟨6, [], []⟩, ⟨7, [], []⟩, ⟨8, [], []⟩, ⟨9, [], []⟩, ⟨10, [], []⟩, ⟨11, [], []⟩, ⟨12, [], []⟩, ⟨13, [], []⟩, ⟨14, [], []⟩, ⟨15, [], []⟩])) (.n (some ([⟨0, [], []⟩, ⟨1, [], []⟩, ⟨2, [], []⟩, ⟨3, [], []⟩, ⟨4, [], []⟩, ⟨5, [], []⟩, ⟨6, [], []⟩, ⟨7, [], []⟩, ⟨8, [], []⟩, ⟨9, [], []⟩, ⟨10, [], []⟩, ⟨11, [], []⟩, ⟨12, [], []⟩, ⟨13, [], []⟩, ⟨14, [], []⟩, ⟨15, [], []⟩])) .e
 .e)
 .e)
 .e))))) .e .e
noncomputable def Tryz.cF547 : Tr CF := .n (some (mkF Tryz.f547 (.n none (.n (some ([⟨0, [], []⟩, ⟨1, [], []⟩, ⟨2, [], []⟩, ⟨3, [], []⟩, ⟨4, [], []⟩, ⟨5, [], []⟩, ⟨6, [], []⟩, ⟨7, [], []⟩, ⟨8, [], []⟩, ⟨9, [], []⟩, ⟨10, [], []⟩, ⟨11, [], []⟩, ⟨12, [], []⟩, ⟨13, [], []⟩, ⟨14, [], []⟩, ⟨15, [], []⟩])) (.n (some ([⟨0, [], []⟩, ⟨1, [], []⟩, ⟨2, [], []⟩, ⟨3, [], []⟩, ⟨4, [], []⟩, ⟨5, [], []⟩, ⟨6, [], []⟩, ⟨7, [], []⟩, ⟨8, [], []⟩, ⟨9, [], []⟩, ⟨10, [], []⟩, ⟨11, [], []⟩, ⟨12, [], []⟩, ⟨13, [], []⟩, ⟨14, [], []⟩, ⟨15, [], []⟩, ⟨16, [], []⟩])) .e
 .e)
 (.n (some ([⟨0, [], []⟩, ⟨1, [], []⟩, ⟨2, [], []⟩, ⟨3, [], []⟩, ⟨4, [], []⟩, ⟨5, [], []⟩, ⟨6, [], []⟩, ⟨7, [], []⟩, ⟨8, [], []⟩, ⟨9, [], []⟩, ⟨10, [], []⟩, ⟨11, [], []⟩, ⟨12, [], []⟩, ⟨13, [], []⟩, ⟨14, [], []⟩, ⟨15, [], []⟩])) .e
 .e))
 (.n none (.n none (.n (some ([⟨0, [], []⟩, ⟨1, [], []⟩, ⟨2, [], []⟩, ⟨3, [], []⟩, ⟨4, [], []⟩, ⟨5, [], []⟩, ⟨6, [], []⟩, ⟨7, [], []⟩, ⟨8, [], []⟩, ⟨9, [], []⟩, ⟨10, [], []⟩, ⟨11, [], []⟩, ⟨12, [], []⟩, ⟨13, [], []⟩, ⟨14, [], []⟩, ⟨15, [], []⟩])) .e
 .e)
 .e)
 .e)))) .e .e
noncomputable def Tryz.cF546 : Tr CF := .n (some (mkF Tryz.f546 (.n none (.n none (.n none (.n none .e
 (.n (some ([⟨0, [], []⟩, ⟨1, [], []⟩, ⟨2, [], []⟩, ⟨3, [], []⟩, ⟨4, [], []⟩, ⟨5, [], []⟩, ⟨6, [], []⟩, ⟨7, [], []⟩, ⟨8, [], []⟩, ⟨9, [], []⟩, ⟨10, [], []⟩, ⟨11, [], []⟩, ⟨12, [], []⟩, ⟨13, [], []⟩, ⟨14, [], []⟩, ⟨15, [], []⟩, ⟨16, [], []⟩, ⟨17, [], []⟩])) .e
 .e))
 (.n (some ([⟨0, [], []⟩, ⟨1, [], []⟩, ⟨2, [], []⟩, ⟨3, [], []⟩, ⟨4, [], []⟩, ⟨5, [], []⟩, ⟨6, [], []⟩, ⟨7, [], []⟩, ⟨8, [], []⟩, ⟨9, [], []⟩, ⟨10, [], []⟩, ⟨11, [], []⟩, ⟨12, [], []⟩, ⟨13, [], []⟩, ⟨14, [], []⟩, ⟨15, [], []⟩, ⟨16, [], []⟩, ⟨17, [], []⟩])) .e
 .e))
 (.n (some ([⟨0, [], []⟩, ⟨1, [], []⟩, ⟨2, [], []⟩, ⟨3, [], []⟩, ⟨4, [], []⟩, ⟨5, [], []⟩, ⟨6, [], []⟩, ⟨7, [], []⟩, ⟨8, [], []⟩, ⟨9, [], []⟩, ⟨10, [], []⟩, ⟨11, [], []⟩, ⟨12, [], []⟩, ⟨13, [], []⟩, ⟨14, [], []⟩, ⟨15, [], []⟩, ⟨16, [], []⟩, ⟨17, [], []⟩])) (.n none (.n (some ([⟨0, [], []⟩, ⟨1, [], []⟩, ⟨2, [], []⟩, ⟨3, [], []⟩, ⟨4, [], []⟩, ⟨5, [], []⟩, ⟨6, [], []⟩, ⟨7, [], []⟩, ⟨8, [], []⟩, ⟨9, [], []⟩, ⟨10, [], []⟩, ⟨11, [], []⟩, ⟨12, [], []⟩, ⟨13, [], []⟩, ⟨14, [], []⟩, ⟨15, [], []⟩, ⟨16, [], []⟩, ⟨17, [], []⟩])) .e
 .e)
 .e)
 .e))
 (.n none (.n none (.n none (.n (some ([⟨0, [], []⟩, ⟨1, [], []⟩, ⟨2, [], []⟩, ⟨3, [], []⟩, ⟨4, [], []⟩, ⟨5, [], []⟩, ⟨6, [], []⟩, ⟨7, [], []⟩, ⟨8, [], []⟩, ⟨9, [], []⟩, ⟨10, [], []⟩, ⟨11, [], []⟩, ⟨12, [], []⟩])) .e
 .e)
 .e)
 .e)
 (.n none .e
 (.n none (.n (some ([⟨0, [], []⟩, ⟨1, [], []⟩, ⟨2, [], []⟩, ⟨3, [], []⟩, ⟨4, [], []⟩, ⟨5, [], []⟩, ⟨6, [], []⟩, ⟨7, [], []⟩, ⟨8, [], []⟩, ⟨9, [], []⟩, ⟨10, [], []⟩, ⟨11, [], []⟩, ⟨12, [], []⟩])) .e
 .e)
 .e)))))) .e .e
noncomputable def Tryz.cF545 : Tr CF := .n (some (mkF Tryz.f545 (.n none (.n none (.n (some ([⟨0, [], []⟩, ⟨1, [], []⟩, ⟨2, [], []⟩, ⟨3, [], []⟩, ⟨4, [], []⟩, ⟨5, [], []⟩, ⟨6, [], []⟩, ⟨7, [], []⟩, ⟨8, [], []⟩, ⟨9, [], []⟩, ⟨10, [], []⟩, ⟨11, [], []⟩, ⟨12, [], []⟩, ⟨13, [], []⟩, ⟨14, [], []⟩, ⟨15, [], []⟩])) .e
 .e)
 .e)
 .e))) .e .e
noncomputable def Tryz.cF544 : Tr CF := .n (some (mkF Tryz.f544 (.e))) .e .e
noncomputable def Tryz.cF543 : Tr CF := .n (some (mkF Tryz.f543 (.n none .e
 (.n none .e
 (.n none (.n (some ([⟨0, [], []⟩, ⟨1, [], []⟩, ⟨2, [], []⟩, ⟨3, [], []⟩, ⟨4, [], []⟩, ⟨5, [], []⟩, ⟨6, [], []⟩, ⟨7, [], []⟩, ⟨8, [], []⟩, ⟨9, [], []⟩, ⟨10, [], []⟩, ⟨11, [], []⟩, ⟨12, [], []⟩, ⟨13, [], []⟩, ⟨14, [], []⟩, ⟨15, [], []⟩, ⟨16, [], []⟩, ⟨17, [], []⟩, ⟨18, [], []⟩, ⟨19, [], []⟩])) .e
 .e)
 .e))))) .e .e
noncomputable def Tryz.cF542 : Tr CF := .n (some (mkF Tryz.f542 (.n none .e
 (.n none .e
 (.n none (.n (some ([⟨0, [], []⟩, ⟨1, [], []⟩, ⟨2, [], []⟩, ⟨3, [], []⟩, ⟨4, [], []⟩, ⟨5, [], []⟩, ⟨6, [], []⟩, ⟨7, [], []⟩, ⟨8, [], []⟩, ⟨9, [], []⟩, ⟨10, [], []⟩, ⟨11, [], []⟩, ⟨12, [], []⟩, ⟨13, [], []⟩, ⟨14, [], []⟩, ⟨15, [], []⟩, ⟨16, [], []⟩, ⟨17, [], []⟩, ⟨18, [], []⟩, ⟨19, [], []⟩])) .e
 .e)
 .e))))) .e .e
noncomputable def Tryz.cF541 : Tr CF := .n (some (mkF Tryz.f541 (.n none .e
 (.n none (.n (some ([⟨0, [], []⟩, ⟨1, [], []⟩, ⟨2, [], []⟩, ⟨3, [], []⟩, ⟨4, [], []⟩, ⟨5, [], []⟩, ⟨6, [], []⟩, ⟨7, [], []⟩, ⟨8, [], []⟩, ⟨9, [], []⟩, ⟨10, [], []⟩, ⟨11, [], []⟩, ⟨12, [], []⟩, ⟨13, [], []⟩, ⟨14, [], []⟩, ⟨15, [], []⟩, ⟨16, [], []⟩])) .e
 .e)
 (.n (some ([⟨0, [], []⟩, ⟨1, [], []⟩, ⟨2, [], []⟩, ⟨3, [], []⟩, ⟨4, [], []⟩, ⟨5, [], []⟩, ⟨6, [], []⟩, ⟨7, [], []⟩, ⟨8, [], []⟩, ⟨9, [], []⟩, ⟨10, [], []⟩, ⟨11, [], []⟩, ⟨12, [], []⟩, ⟨13, [], []⟩, ⟨14, [], []⟩, ⟨15, [], []⟩, ⟨16, [], []⟩, ⟨17, [], []⟩])) .e
 .e))))) .e .e
noncomputable def Tryz.cF540 : Tr CF := .n (some (mkF Tryz.f540 (.e))) .e .e
noncomputable def Tryz.cF539 : Tr CF := .n (some (mkF Tryz.f539 (.e))) .e .e
noncomputable def Tryz.cF538 : Tr CF := .n (some (mkF Tryz.f538 (.e))) .e .e
noncomputable def Tryz.cF537 : Tr CF := .n (some (mkF Tryz.f537 (.e))) .e .e
noncomputable def Tryz.cF536 : Tr CF := .n (some (mkF Tryz.f536 (.e))) .e .e
noncomputable def Tryz.cF535 : Tr CF := .n (some (mkF Tryz.f535 (.e))) .e .e
noncomputable def Tryz.cF534 : Tr CF := .n (some (mkF Tryz.f534 (.e))) .e .e
noncomputable def Tryz.cF533 : Tr CF := .n (some (mkF Tryz.f533 (.e))) .e .e
noncomputable def Tryz.cF532 : Tr CF := .n (some (mkF Tryz.f532 (.e))) .e .e
noncomputable def Tryz.cF531 : Tr CF := .n (some (mkF Tryz.f531 (.e))) .e .e
noncomputable def Tryz.cF530 : Tr CF := .n none .e .e
noncomputable def Tryz.cF529 : Tr CF := .n (some (mkF Tryz.f529 (.e))) .e .e
noncomputable def Tryz.cF528 : Tr CF := .n (some (mkF Tryz.f528 (.e))) .e .e
noncomputable def Tryz.cF527 : Tr CF := .n (some (mkF Tryz.f527 (.n none (.n none (.n (some ([⟨0, [], []⟩, ⟨2, [], []⟩, ⟨1, [2], []⟩, ⟨3, [], []⟩, ⟨4, [], []⟩, ⟨5, [], []⟩, ⟨6, [], []⟩, ⟨7, [], []⟩])) .e
 .e)
 .e)
 (.n none (.n none (.n (some ([⟨0, [], []⟩, ⟨1, [], []⟩, ⟨2, [], []⟩, ⟨3, [], []⟩, ⟨4, [], []⟩, ⟨5, [], []⟩, ⟨6, [], []⟩, ⟨7, [], []⟩, ⟨8, [], []⟩, ⟨9, [], []⟩, ⟨10, [], []⟩, ⟨11, [], []⟩, ⟨12, [], []⟩, ⟨13, [], []⟩, ⟨14, [], []⟩, ⟨15, [], []⟩, ⟨16, [], []⟩, ⟨17, [], []⟩, ⟨18, [], []⟩, ⟨19, [], []⟩, ⟨20, [], []⟩, ⟨21, [], []⟩, ⟨22, [], []⟩, ⟨23, [], []⟩, ⟨24, [], []⟩])) .e
 .e)
 .e)
 .e)))) .e .e
noncomputable def Tryz.cF526 : Tr CF := .n (some (mkF Tryz.f526 (.n none (.n none (.n (some ([⟨0, [], []⟩, ⟨2, [], []⟩, ⟨1, [2], []⟩, ⟨3, [], []⟩, ⟨4, [], []⟩, ⟨5, [], []⟩, ⟨6, [], []⟩, ⟨7, [], []⟩])) .e
 .e)
 .e)
 .e))) .e .e
noncomputable def Tryz.cF525 : Tr CF := .n (some (mkF Tryz.f525 (.n none (.n none (.n (some ([⟨0, [], []⟩, ⟨2, [], []⟩, ⟨3, [], []⟩, ⟨1, [3], []⟩, ⟨4, [], []⟩, ⟨5, [], []⟩, ⟨6, [3], []⟩, ⟨7, [], []⟩])) (.n none (.n (some ([⟨0, [], []⟩, ⟨1, [], []⟩, ⟨2, [], []⟩, ⟨3, [], []⟩, ⟨4, [], []⟩, ⟨5, [], []⟩, ⟨6, [], []⟩, ⟨7, [], []⟩, ⟨8, [], []⟩, ⟨9, [], []⟩, ⟨10, [], []⟩, ⟨11, [], []⟩, ⟨12, [], []⟩, ⟨13, [], []⟩, ⟨14, [], []⟩, ⟨15, [], []⟩, ⟨16, [], []⟩, ⟨17, [], []⟩, ⟨18, [], []⟩, ⟨19, [], []⟩, ⟨20, [], []⟩, ⟨21, [], []⟩, ⟨22, [], []⟩, ⟨23, [], []⟩, ⟨24, [], []⟩, ⟨25, [], []⟩, ⟨26, [], []⟩, ⟨27, [], []⟩])) .e
 .e)
 .e)
 .e)
 (.n none (.n (some ([⟨0, [], []⟩, ⟨1, [], []⟩, ⟨2, [], []⟩, ⟨3, [], []⟩, ⟨4, [], []⟩, ⟨5, [], []⟩, ⟨6, [], []⟩, ⟨7, [], []⟩, ⟨8, [], []⟩, ⟨9, [], []⟩, ⟨10, [], []⟩, ⟨11, [], []⟩, ⟨12, [], []⟩, ⟨13, [], []⟩, ⟨14, [], []⟩, ⟨15, [], []⟩, ⟨16, [], []⟩, ⟨17, [], []⟩, ⟨18, [], []⟩, ⟨19, [], []⟩, ⟨20, [], []⟩, ⟨21, [], []⟩, ⟨22, [], []⟩, ⟨23, [], []⟩, ⟨24, [], []⟩])) .e
 .e)
 .e))
 .e))) .e .e
noncomputable def Tryz.cF524 : Tr CF := .n (some (mkF Tryz.f524 (.e))) .e .e
noncomputable def Tryz.cF523 : Tr CF := .n (some (mkF Tryz.f523 (.e))) .e .e
noncomputable def Tryz.cF522 : Tr CF := .n (some (mkF Tryz.f522 (.e))) .e .e
noncomputable def Tryz.cF521 : Tr CF := .n (some (mkF Tryz.f521 (.e))) .e .e
noncomputable def Tryz.cF520 : Tr CF := .n (some (mkF Tryz.f520 (.n none (.n (some ([⟨0, [], []⟩, ⟨1, [], []⟩, ⟨2, [], []⟩, ⟨3, [], []⟩, ⟨4, [], []⟩, ⟨5, [], []⟩, ⟨6, [], []⟩, ⟨7, [], []⟩, ⟨8, [], []⟩, ⟨9, [], []⟩])) (.n (some ([⟨0, [], []⟩, ⟨1, [], []⟩, ⟨2, [], []⟩, ⟨3, [], []⟩, ⟨4, [], []⟩, ⟨5, [], []⟩, ⟨6, [], []⟩, ⟨7, [], []⟩, ⟨8, [], []⟩, ⟨9, [], []⟩])) .e
 .e)
 .e)
 (.n (some ([⟨0, [], []⟩, ⟨1, [], []⟩, ⟨2, [], []⟩, ⟨3, [], []⟩, ⟨4, [], []⟩, ⟨5, [], []⟩, ⟨6, [], []⟩, ⟨7, [], []⟩, ⟨8, [], []⟩, ⟨9, [], []⟩])) .e
 .e)))) .e .e
noncomputable def Tryz.cF519 : Tr CF := .n (some (mkF Tryz.f519 (.e))) .e .e
noncomputable def Tryz.cF518 : Tr CF := .n (some (mkF Tryz.f518 (.n none (.n none (.n (some ([⟨0, [], []⟩, ⟨1, [], []⟩, ⟨2, [], []⟩, ⟨3, [], []⟩, ⟨4, [], []⟩, ⟨5, [], []⟩, ⟨6, [], []⟩, ⟨7, [], []⟩, ⟨8, [], []⟩, ⟨9, [], []⟩, ⟨10, [], []⟩, ⟨11, [], []⟩, ⟨12, [], []⟩, ⟨13, [], []⟩, ⟨14, [], []⟩, ⟨15, [], []⟩, ⟨16, [], []⟩, ⟨17, [], []⟩, ⟨18, [], []⟩, ⟨19, [], []⟩, ⟨20, [], []⟩, ⟨21, [], []⟩])) .e
 .e)
 (.n (some ([⟨0, [], []⟩, ⟨1, [], []⟩, ⟨2, [], []⟩, ⟨3, [], []⟩, ⟨4, [], []⟩, ⟨5, [], []⟩, ⟨6, [], []⟩, ⟨7, [], []⟩, ⟨8, [], []⟩, ⟨9, [], []⟩, ⟨10, [], []⟩, ⟨11, [], []⟩, ⟨12, [], []⟩, ⟨13, [], []⟩, ⟨14, [], []⟩, ⟨15, [], []⟩])) .e
 .e))
 (.n none .e
 (.n (some ([⟨0, [], []⟩, ⟨1, [], []⟩, ⟨2, [], []⟩, ⟨3, [], []⟩, ⟨4, [], []⟩, ⟨5, [], []⟩, ⟨6, [], []⟩, ⟨7, [], []⟩, ⟨8, [], []⟩, ⟨9, [], []⟩, ⟨10, [], []⟩, ⟨11, [], []⟩, ⟨12, [], []⟩, ⟨13, [], []⟩, ⟨14, [], []⟩, ⟨15, [], []⟩, ⟨16, [], []⟩, ⟨17, [], []⟩, ⟨18, [], []⟩, ⟨19, [], []⟩, ⟨20, [], []⟩, ⟨21, [], []⟩, ⟨22, [], []⟩, ⟨23, [], []⟩])) .e
 .e))))) .e .e
noncomputable def Tryz.cF517 : Tr CF := .n (some (mkF Tryz.f517 (.e))) .e .e
noncomputable def Tryz.cF516 : Tr CF := .n (some (mkF Tryz.f516 (.n none (.n (some ([⟨0, [], []⟩, ⟨1, [], []⟩, ⟨2, [], []⟩, ⟨3, [], []⟩, ⟨4, [], []⟩, ⟨5, [], []⟩, ⟨6, [], []⟩, ⟨7, [], []⟩, ⟨8, [], []⟩, ⟨9, [], []⟩, ⟨10, [], []⟩, ⟨11, [], []⟩, ⟨12, [], []⟩, ⟨13, [], []⟩, ⟨14, [], []⟩, ⟨15, [], []⟩, ⟨16, [], []⟩, ⟨17, [], []⟩])) .e
 .e)
 .e))) .e .e
noncomputable def Tryz.cF515 : Tr CF := .n (some (mkF Tryz.f515 (.n none (.n none (.n none .e
 (.n (some ([⟨0, [], []⟩, ⟨2, [], []⟩, ⟨3, [], []⟩, ⟨1, [3], []⟩, ⟨4, [], []⟩, ⟨5, [], []⟩, ⟨6, [], []⟩, ⟨7, [], []⟩, ⟨8, [], []⟩, ⟨9, [], []⟩, ⟨10, [], []⟩, ⟨11, [], []⟩, ⟨12, [], []⟩])) .e
 .e))
 .e)
 (.n (some ([⟨0, [], []⟩, ⟨1, [], []⟩, ⟨2, [], []⟩, ⟨3, [], []⟩, ⟨4, [], []⟩, ⟨5, [], []⟩, ⟨6, [], []⟩, ⟨7, [], []⟩, ⟨8, [], []⟩, ⟨9, [], []⟩, ⟨10, [], []⟩, ⟨11, [], []⟩, ⟨12, [], []⟩, ⟨13, [], []⟩, ⟨14, [], []⟩, ⟨15, [], []⟩, ⟨16, [], []⟩, ⟨17, [], []⟩, ⟨18, [], []⟩, ⟨19, [], []⟩, ⟨20, [], []⟩, ⟨21, [], []⟩, ⟨22, [], []⟩])) .e
 .e)))) .e .e
noncomputable def Tryz.cF514 : Tr CF := .n (some (mkF Tryz.f514 (.n (some ([⟨0, [], []⟩, ⟨1, [], []⟩, ⟨2, [], []⟩, ⟨3, [], []⟩, ⟨4, [], []⟩, ⟨5, [], []⟩, ⟨6, [], []⟩, ⟨7, [], []⟩, ⟨8, [], []⟩, ⟨9, [], []⟩, ⟨10, [], []⟩, ⟨11, [], []⟩])) (.n (some ([⟨0, [], []⟩, ⟨1, [], []⟩, ⟨2, [], []⟩, ⟨3, [], []⟩, ⟨4, [], []⟩, ⟨5, [], []⟩, ⟨6, [], []⟩, ⟨7, [], []⟩, ⟨8, [], []⟩, ⟨9, [], []⟩])) .e
 .e)
 (.n (some ([⟨0, [], []⟩, ⟨1, [], []⟩, ⟨2, [], []⟩, ⟨3, [], []⟩, ⟨4, [], []⟩, ⟨5, [], []⟩, ⟨6, [], []⟩, ⟨7, [], []⟩, ⟨8, [], []⟩, ⟨9, [], []⟩, ⟨10, [], []⟩, ⟨11, [], []⟩, ⟨12, [], []⟩, ⟨13, [], []⟩, ⟨14, [], []⟩])) .e
 .e)))) .e .e
noncomputable def Tryz.cF513 : Tr CF := .n (some (mkF Tryz.f513 (.e))) .e .e
noncomputable def Tryz.cF512 : Tr CF := .n (some (mkF Tryz.f512 (.e))) .e .e
noncomputable def Tryz.cF511 : Tr CF := .n (some (mkF Tryz.f511 (.n none (.n (some ([⟨0, [], []⟩, ⟨1, [], []⟩, ⟨2, [], []⟩, ⟨3, [], []⟩, ⟨4, [], []⟩, ⟨5, [], []⟩, ⟨6, [], []⟩, ⟨7, [], []⟩, ⟨8, [], []⟩, ⟨9, [], []⟩, ⟨10, [], []⟩, ⟨11, [], []⟩, ⟨12, [], []⟩, ⟨13, [], []⟩, ⟨14, [], []⟩, ⟨15, [], []⟩, ⟨16, [], []⟩, ⟨17, [], []⟩, ⟨18, [], []⟩, ⟨19, [], []⟩, ⟨20, [], []⟩, ⟨21, [], []⟩, ⟨22, [], []⟩, ⟨23, [], []⟩, ⟨24, [], []⟩, ⟨25, [], []⟩, ⟨26, [], []⟩, ⟨27, [], []⟩, ⟨28, [], []⟩, ⟨29, [], []⟩, ⟨30, [], []⟩, ⟨31, [], []⟩, ⟨32, [], []⟩, ⟨33, [], []⟩, ⟨34, [], []⟩, ⟨35, [], []⟩, ⟨36, [], []⟩, ⟨37, [], []⟩, ⟨38, [], []⟩, ⟨39, [], []⟩, ⟨40, [], []⟩, ⟨41, [], []⟩, ⟨42, [], []⟩, ⟨43, [], []⟩, ⟨44, [], []⟩, ⟨45, [], []⟩, ⟨46, [], []⟩, ⟨47, [], []⟩, ⟨48, [], []⟩, ⟨49, [], []⟩, ⟨50, [], []⟩, ⟨51, [], []⟩, ⟨52, [], []⟩, ⟨53, [], []⟩, ⟨54, [], []⟩])) (.n (some ([⟨0, [], []⟩, ⟨1, [], []⟩, ⟨2, [], []⟩, ⟨3, [], []⟩, ⟨4, [], []⟩, ⟨5, [], []⟩, ⟨6, [], []⟩, ⟨7, [], []⟩, ⟨8, [], []⟩, ⟨9, [], []⟩])) .e
 .e)
 .e)
 .e))) .e .e
noncomputable def Tryz.cF510 : Tr CF := .n (some (mkF Tryz.f510 (.n none (.n (some ([⟨0, [], []⟩, ⟨1, [], []⟩, ⟨2, [], []⟩, ⟨3, [], []⟩, ⟨4, [], []⟩, ⟨5, [], []⟩, ⟨6, [], []⟩, ⟨7, [], []⟩, ⟨8, [], []⟩, ⟨9, [], []⟩, ⟨10, [], []⟩, ⟨11, [], []⟩, ⟨12, [], []⟩, ⟨13, [], []⟩, ⟨14, [], []⟩])) .e
 .e)
 (.n (some ([⟨0, [], []⟩, ⟨1, [], []⟩, ⟨2, [], []⟩, ⟨3, [], []⟩, ⟨4, [], []⟩, ⟨5, [], []⟩, ⟨6, [], []⟩, ⟨7, [], []⟩, ⟨8, [], []⟩, ⟨9, [], []⟩])) .e
 (.n (some ([⟨0, [], []⟩, ⟨1, [], []⟩, ⟨2, [], []⟩, ⟨3, [], []⟩, ⟨4, [], []⟩, ⟨5, [], []⟩, ⟨6, [], []⟩, ⟨7, [], []⟩, ⟨8, [], []⟩, ⟨9, [], []⟩, ⟨10, [], []⟩, ⟨11, [], []⟩, ⟨12, [], []⟩, ⟨13, [], []⟩, ⟨14, [], []⟩, ⟨15, [], []⟩])) .e
 .e))))) .e .e
noncomputable def Tryz.cF509 : Tr CF := .n (some (mkF Tryz.f509 (.n none (.n (some ([⟨0, [], []⟩, ⟨1, [], []⟩, ⟨2, [], []⟩, ⟨3, [], []⟩, ⟨4, [], []⟩, ⟨5, [], []⟩, ⟨6, [], []⟩, ⟨7, [], []⟩, ⟨8, [], []⟩, ⟨9, [], []⟩, ⟨10, [], []⟩, ⟨11, [], []⟩, ⟨12, [], []⟩])) (.n none (.n (some ([⟨0, [], []⟩, ⟨1, [], []⟩, ⟨2, [], []⟩, ⟨3, [], []⟩, ⟨4, [], []⟩, ⟨5, [], []⟩, ⟨6, [], []⟩, ⟨7, [], []⟩, ⟨8, [], []⟩, ⟨9, [], []⟩, ⟨10, [], []⟩, ⟨11, [], []⟩, ⟨12, [], []⟩, ⟨13, [], []⟩, ⟨14, [], []⟩, ⟨15, [], []⟩, ⟨16, [], []⟩, ⟨17, [], []⟩, ⟨18, [], []⟩, ⟨19, [], []⟩, ⟨20, [], []⟩, ⟨21, [], []⟩, ⟨22, [], []⟩, ⟨23, [], []⟩, ⟨24, [], []⟩, ⟨25, [], []⟩, ⟨26, [], []⟩, ⟨27, [], []⟩, ⟨28, [], []⟩])) .e
 .e)
 .e)
 .e)
 .e))) .e .e
noncomputable def Tryz.cF508 : Tr CF := .n (some (mkF Tryz.f508 (.e))) .e .e
noncomputable def Tryz.cF507 : Tr CF := .n (some (mkF Tryz.f507 (.e))) .e .e
noncomputable def Tryz.cF506 : Tr CF := .n (some (mkF Tryz.f506 (.n none (.n (some ([⟨0, [], []⟩, ⟨1, [], []⟩, ⟨2, [], []⟩, ⟨3, [], []⟩, ⟨4, [], []⟩, ⟨5, [], []⟩, ⟨6, [], []⟩, ⟨7, [], []⟩, ⟨8, [], []⟩, ⟨9, [], []⟩, ⟨10, [], []⟩, ⟨11, [], []⟩, ⟨12, [], []⟩, ⟨13, [], []⟩, ⟨14, [], []⟩, ⟨15, [], []⟩])) (.n (some ([⟨0, [], []⟩, ⟨1, [], []⟩, ⟨2, [], []⟩, ⟨3, [], []⟩, ⟨4, [], []⟩, ⟨5, [], []⟩, ⟨6, [], []⟩, ⟨7, [], []⟩, ⟨8, [], []⟩, ⟨9, [], []⟩, ⟨10, [], []⟩, ⟨11, [], []⟩, ⟨12, [], []⟩, ⟨13, [], []⟩])) (.n none (.n (some ([⟨0, [], []⟩, ⟨1, [], []⟩, ⟨2, [], []⟩, ⟨3, [], []⟩, ⟨4, [], []⟩, ⟨5, [], []⟩, ⟨6, [], []⟩, ⟨7, [], []⟩, ⟨8, [], []⟩, ⟨9, [], []⟩, ⟨10, [], []⟩, ⟨11, [], []⟩, ⟨12, [], []⟩, ⟨13, [], []⟩, ⟨14, [], []⟩])) .e
 .e)
 .e)
 .e)
 (.n (some ([⟨0, [], []⟩, ⟨1, [], []⟩, ⟨2, [], []⟩, ⟨3, [], []⟩, ⟨4, [], []⟩, ⟨5, [], []⟩, ⟨6, [], []⟩, ⟨7, [], []⟩, ⟨8, [], []⟩, ⟨9, [], []⟩, ⟨10, [], []⟩, ⟨11, [], []⟩, ⟨12, [], []⟩, ⟨13, [], []⟩, ⟨14, [], []⟩])) .e
 (.n (some ([⟨0, [], []⟩, ⟨1, [], []⟩, ⟨2, [], []⟩, ⟨3, [], []⟩, ⟨4, [], []⟩, ⟨5, [], []⟩, ⟨6, [], []⟩, ⟨7, [], []⟩, ⟨8, [], []⟩, ⟨9, [], []⟩, ⟨10, [], []⟩, ⟨11, [], []⟩, ⟨12, [], []⟩, ⟨13, [], []⟩])) (.n (some ([⟨0, [], []⟩, ⟨1, [], []⟩, ⟨2, [], []⟩, ⟨3, [], []⟩, ⟨4, [], []⟩, ⟨5, [], []⟩, ⟨6, [], []⟩, ⟨7, [], []⟩, ⟨8, [], []⟩, ⟨9, [], []⟩, ⟨10, [], []⟩, ⟨11, [], []⟩, ⟨12, [], []⟩, ⟨13, [], []⟩, ⟨14, [], []⟩, ⟨15, [], []⟩])) .e
 .e)
 .e)))
 (.n none (.n none (.n (some ([⟨0, [], []⟩, ⟨1, [], []⟩, ⟨2, [], []⟩, ⟨3, [], []⟩, ⟨4, [], []⟩, ⟨5, [], []⟩, ⟨6, [], []⟩, ⟨7, [], []⟩, ⟨8, [], []⟩, ⟨9, [], []⟩, ⟨10, [], []⟩, ⟨11, [], []⟩, ⟨12, [], []⟩, ⟨13, [], []⟩, ⟨14, [], []⟩, ⟨15, [], []⟩])) .e
 .e)
 .e)
 (.n none (.n (some ([⟨0, [], []⟩, ⟨1, [], []⟩, ⟨2, [], []⟩, ⟨3, [], []⟩, ⟨4, [], []⟩, ⟨5, [], []⟩, ⟨6, [], []⟩, ⟨7, [], []⟩, ⟨8, [], []⟩, ⟨9, [], []⟩, ⟨10, [], []⟩, ⟨11, [], []⟩, ⟨12, [], []⟩, ⟨13, [], []⟩, ⟨14, [], []⟩, ⟨15, [], []⟩])) (.n (some ([⟨0, [], []⟩, ⟨1, [], []⟩, ⟨2, [], []⟩, ⟨3, [], []⟩, ⟨4, [], []⟩, ⟨5, [], []⟩, ⟨6, [], []⟩, ⟨7, [], []⟩, ⟨8, [], []⟩, ⟨9, [], []⟩, ⟨10, [], []⟩, ⟨11, [], []⟩, ⟨12, [], []⟩, ⟨13, [], []⟩, ⟨14, [], []⟩, ⟨15, [], []⟩])) .e
 .e)
 .e)
 .e))))) .e .e
noncomputable def Tryz.cF505 : Tr CF := .n (some (mkF Tryz.f505 (.n none (.n (some ([⟨0, [], []⟩, ⟨1, [], []⟩, ⟨2, [], []⟩, ⟨3, [], []⟩, ⟨4, [], []⟩, ⟨5, [], []⟩, ⟨6, [], []⟩, ⟨7, [], []⟩, ⟨8, [], []⟩, ⟨9, [], []⟩, ⟨10, [], []⟩, ⟨11, [], []⟩, ⟨12, [], []⟩, ⟨13, [], []⟩, ⟨14, [], []⟩, ⟨15, [], []⟩])) (.n (some ([⟨0, [], []⟩, ⟨1, [], []⟩, ⟨2, [], []⟩, ⟨3, [], []⟩, ⟨4, [], []⟩, ⟨5, [], []⟩, ⟨6, [], []⟩, ⟨7, [], []⟩, ⟨8, [], []⟩, ⟨9, [], []⟩, ⟨10, [], []⟩, ⟨11, [], []⟩, ⟨12, [], []⟩, ⟨13, [], []⟩, ⟨14, [], []⟩])) .e
 .e)
 (.n (some ([⟨0, [], []⟩, ⟨1, [], []⟩, ⟨2, [], []⟩, ⟨3, [], []⟩, ⟨4, [], []⟩, ⟨5, [], []⟩, ⟨6, [], []⟩, ⟨7, [], []⟩, ⟨8, [], []⟩, ⟨9, [], []⟩, ⟨10, [], []⟩, ⟨11, [], []⟩, ⟨12, [], []⟩, ⟨13, [], []⟩])) .e
 .e))
 (.n none (.n none (.n (some ([⟨0, [], []⟩, ⟨1, [], []⟩, ⟨2, [], []⟩, ⟨3, [], []⟩, ⟨4, [], []⟩, ⟨5, [], []⟩, ⟨6, [], []⟩, ⟨7, [], []⟩, ⟨8, [], []⟩, ⟨9, [], []⟩, ⟨10, [], []⟩, ⟨11, [], []⟩, ⟨12, [], []⟩, ⟨13, [], []⟩, ⟨14, [], []⟩, ⟨15, [], []⟩])) .e
 .e)
 .e)
 .e)))) .e .e
noncomputable def Tryz.cF504 : Tr CF := .n (some (mkF Tryz.f504 (.e))) .e .e
noncomputable def Tryz.cF503 : Tr CF := .n (some (mkF Tryz.f503 (.n none (.n none (.n none (.n none .e
 (.n (some ([⟨0, [], []⟩, ⟨1, [], []⟩, ⟨2, [], []⟩, ⟨3, [], []⟩, ⟨4, [], []⟩, ⟨5, [], []⟩, ⟨6, [], []⟩, ⟨7, [], []⟩, ⟨8, [], []⟩, ⟨9, [], []⟩, ⟨10, [], []⟩, ⟨11, [], []⟩, ⟨12, [], []⟩, ⟨13, [], []⟩, ⟨14, [], []⟩, ⟨15, [], []⟩, ⟨16, [], []⟩, ⟨17, [], []⟩])) .e
 .e))
 (.n (some ([⟨0, [], []⟩, ⟨1, [], []⟩, ⟨2, [], []⟩, ⟨3, [], []⟩, ⟨4, [], []⟩, ⟨5, [], []⟩, ⟨6, [], []⟩, ⟨7, [], []⟩, ⟨8, [], []⟩, ⟨9, [], []⟩, ⟨10, [], []⟩, ⟨11, [], []⟩, ⟨12, [], []⟩, ⟨13, [], []⟩, ⟨14, [], []⟩, ⟨15, [], []⟩, ⟨16, [], []⟩, ⟨17, [], []⟩])) .e
 .e))
 (.n (some ([⟨0, [], []⟩, ⟨1, [], []⟩, ⟨2, [], []⟩, ⟨3, [], []⟩, ⟨4, [], []⟩, ⟨5, [], []⟩, ⟨6, [], []⟩, ⟨7, [], []⟩, ⟨8, [], []⟩, ⟨9, [], []⟩, ⟨10, [], []⟩, ⟨11, [], []⟩, ⟨12, [], []⟩, ⟨13, [], []⟩, ⟨14, [], []⟩, ⟨15, [], []⟩])) (.n none (.n (some ([⟨0, [], []⟩, ⟨1, [], []⟩, ⟨2, [], []⟩, ⟨3, [], []⟩, ⟨4, [], []⟩, ⟨5, [], []⟩, ⟨6, [], []⟩, ⟨7, [], []⟩, ⟨8, [], []⟩, ⟨9, [], []⟩, ⟨10, [], []⟩, ⟨11, [], []⟩, ⟨12, [], []⟩, ⟨13, [], []⟩, ⟨14, [], []⟩, ⟨15, [], []⟩, ⟨16, [], []⟩, ⟨17, [], []⟩])) .e
 .e)
 .e)
 .e))
 (.n none (.n none (.n none (.n (some ([⟨0, [], []⟩, ⟨1, [], []⟩, ⟨2, [], []⟩, ⟨3, [], []⟩, ⟨4, [], []⟩, ⟨5, [], []⟩, ⟨6, [], []⟩, ⟨7, [], []⟩, ⟨8, [], []⟩, ⟨9, [], []⟩, ⟨10, [], []⟩])) .e
 .e)
 .e)
 .e)
 (.n none .e
 (.n none (.n (some ([⟨0, [], []⟩, ⟨1, [], []⟩, ⟨2, [], []⟩, ⟨3, [], []⟩, ⟨4, [], []⟩, ⟨5, [], []⟩, ⟨6, [], []⟩, ⟨7, [], []⟩, ⟨8, [], []⟩, ⟨9, [], []⟩, ⟨10, [], []⟩])) .e
 .e)
 .e)))))) .e .e
noncomputable def Tryz.cF502 : Tr CF := .n (some (mkF Tryz.f502 (.n none (.n none (.n (some ([⟨0, [], []⟩, ⟨1, [], []⟩, ⟨2, [], []⟩, ⟨3, [], []⟩, ⟨4, [], []⟩, ⟨5, [], []⟩, ⟨6, [], []⟩, ⟨7, [], []⟩, ⟨8, [], []⟩, ⟨9, [], []⟩, ⟨10, [], []⟩, ⟨11, [], []⟩, ⟨12, [], []⟩, ⟨13, [], []⟩, ⟨14, [], []⟩, ⟨15, [], []⟩])) .e
 .e)
 .e)
 .e))) .e .e
noncomputable def Tryz.cF501 : Tr CF := .n (some (mkF Tryz.f501 (.e))) .e .e
noncomputable def Tryz.cF500 : Tr CF := .n (some (mkF Tryz.f500 (.n none .e
 (.n none .e
 (.n none (.n (some ([⟨0, [], []⟩, ⟨1, [], []⟩, ⟨2, [], []⟩, ⟨3, [], []⟩, ⟨4, [], []⟩, ⟨5, [], []⟩, ⟨6, [], []⟩, ⟨7, [], []⟩, ⟨8, [], []⟩, ⟨9, [], []⟩, ⟨10, [], []⟩, ⟨11, [], []⟩, ⟨12, [], []⟩, ⟨13, [], []⟩, ⟨14, [], []⟩, ⟨15, [], []⟩, ⟨16, [], []⟩, ⟨17, [], []⟩, ⟨18, [], []⟩, ⟨19, [], []⟩])) .e
 .e)
 .e))))) .e .e
noncomputable def Tryz.cF499 : Tr CF := .n (some (mkF Tryz.f499 (.n none .e
 (.n none .e
 (.n none (.n (some ([⟨0, [], []⟩, ⟨1, [], []⟩, ⟨2, [], []⟩, ⟨3, [], []⟩, ⟨4, [], []⟩, ⟨5, [], []⟩, ⟨6, [], []⟩, ⟨7, [], []⟩, ⟨8, [], []⟩, ⟨9, [], []⟩, ⟨10, [], []⟩, ⟨11, [], []⟩, ⟨12, [], []⟩, ⟨13, [], []⟩, ⟨14, [], []⟩, ⟨15, [], []⟩, ⟨16, [], []⟩, ⟨17, [], []⟩, ⟨18, [], []⟩, ⟨19, [], []⟩])) .e
 .e)
 .e))))) .e .e
noncomputable def Tryz.cF498 : Tr CF := .n (some (mkF Tryz.f498 (.n none .e
 (.n none (.n (some ([⟨0, [], []⟩, ⟨1, [], []⟩, ⟨2, [], []⟩, ⟨3, [], []⟩, ⟨4, [], []⟩, ⟨5, [], []⟩, ⟨6, [], []⟩, ⟨7, [], []⟩, ⟨8, [], []⟩, ⟨9, [], []⟩, ⟨10, [], []⟩, ⟨11, [], []⟩, ⟨12, [], []⟩, ⟨13, [], []⟩, ⟨14, [], []⟩])) .e
 .e)
 (.n (some ([⟨0, [], []⟩, ⟨1, [], []⟩, ⟨2, [], []⟩, ⟨3, [], []⟩, ⟨4, [], []⟩, ⟨5, [], []⟩, ⟨6, [], []⟩, ⟨7, [], []⟩, ⟨8, [], []⟩, ⟨9, [], []⟩, ⟨10, [], []⟩, ⟨11, [], []⟩, ⟨12, [], []⟩, ⟨13, [], []⟩, ⟨14, [], []⟩, ⟨15, [], []⟩, ⟨16, [], []⟩, ⟨17, [], []⟩])) .e
 .e))))) .e .e
noncomputable def Tryz.cF497 : Tr CF := .n (some (mkF Tryz.f497 (.n none .e
 (.n none (.n none (.n none (.n (some ([⟨0, [], []⟩, ⟨1, [], []⟩, ⟨2, [], []⟩, ⟨3, [], []⟩, ⟨4, [], []⟩, ⟨7, [], []⟩, ⟨5, [], []⟩, ⟨6, [], []⟩, ⟨8, [], []⟩, ⟨9, [], []⟩])) .e
 .e)
 .e)
 (.n (some ([⟨0, [], []⟩, ⟨1, [], []⟩, ⟨2, [], []⟩, ⟨3, [], []⟩, ⟨4, [], []⟩, ⟨5, [], []⟩, ⟨6, [], []⟩, ⟨7, [], []⟩, ⟨8, [], []⟩, ⟨9, [], []⟩, ⟨10, [], []⟩, ⟨11, [], []⟩])) .e
 .e))
 .e)))) .e .e
noncomputable def Tryz.cF496 : Tr CF := .n (some (mkF Tryz.f496 (.n none .e
 (.n none (.n (some ([⟨0, [], []⟩, ⟨1, [], []⟩, ⟨2, [], []⟩, ⟨3, [], []⟩, ⟨4, [], []⟩, ⟨5, [], []⟩, ⟨6, [], []⟩, ⟨7, [], []⟩, ⟨8, [], []⟩, ⟨9, [], []⟩, ⟨10, [], []⟩, ⟨11, [], []⟩, ⟨12, [], []⟩, ⟨13, [], []⟩, ⟨14, [], []⟩, ⟨15, [], []⟩, ⟨16, [], []⟩, ⟨17, [], []⟩, ⟨18, [], []⟩, ⟨19, [], []⟩, ⟨20, [], []⟩, ⟨21, [], []⟩, ⟨22, [], []⟩, ⟨23, [], []⟩, ⟨24, [], []⟩, ⟨25, [], []⟩, ⟨26, [], []⟩])) .e
 .e)
 .e)))) .e .e
noncomputable def Tryz.cF495 : Tr CF := .n (some (mkF Tryz.f495 (.e))) .e .e
noncomputable def Tryz.cF494 : Tr CF := .n (some (mkF Tryz.f494 (.n none (.n (some ([⟨0, [], []⟩, ⟨1, [], []⟩, ⟨2, [], []⟩, ⟨4, [], []⟩, ⟨5, [], []⟩, ⟨6, [], []⟩, ⟨3, [5, 6], []⟩, ⟨7, [], []⟩, ⟨8, [], []⟩, ⟨9, [], []⟩, ⟨10, [], []⟩])) .e
 .e)
 (.n (some ([⟨0, [], []⟩, ⟨1, [], []⟩, ⟨2, [], []⟩, ⟨3, [], []⟩, ⟨4, [], []⟩, ⟨5, [], []⟩, ⟨6, [], []⟩, ⟨7, [], []⟩, ⟨8, [], []⟩, ⟨9, [], []⟩, ⟨10, [], []⟩, ⟨11, [], []⟩, ⟨12, [], []⟩, ⟨13, [], []⟩, ⟨14, [], []⟩, ⟨15, [], []⟩, ⟨16, [], []⟩, ⟨17, [], []⟩])) (.n (some ([⟨0, [], []⟩, ⟨1, [], []⟩, ⟨2, [], []⟩, ⟨3, [], []⟩, ⟨4, [], []⟩, ⟨5, [], []⟩, ⟨6, [], []⟩, ⟨7, [], []⟩, ⟨8, [], []⟩, ⟨9, [], []⟩, ⟨10, [], []⟩, ⟨11, [], []⟩, ⟨12, [], []⟩, ⟨13, [], []⟩])) .e
 .e)
 .e)))) .e .e
noncomputable def Tryz.cF493 : Tr CF := .n (some (mkF Tryz.f493 (.n none (.n none (.n (some ([⟨0, [], []⟩, ⟨1, [], []⟩, ⟨2, [], []⟩, ⟨3, [], []⟩, ⟨4, [], []⟩, ⟨5, [], []⟩, ⟨6, [], []⟩, ⟨7, [], []⟩, ⟨8, [], []⟩])) .e
 .e)
 .e)
 (.n (some ([⟨0, [], []⟩, ⟨1, [], []⟩, ⟨2, [], []⟩, ⟨3, [], []⟩, ⟨4, [], []⟩, ⟨5, [], []⟩, ⟨6, [], []⟩, ⟨7, [], []⟩, ⟨8, [], []⟩, ⟨9, [], []⟩, ⟨10, [], []⟩, ⟨11, [], []⟩, ⟨12, [], []⟩, ⟨13, [], []⟩, ⟨14, [], []⟩, ⟨15, [], []⟩, ⟨16, [], []⟩, ⟨17, [], []⟩])) (.n none (.n (some ([⟨0, [], []⟩, ⟨1, [], []⟩, ⟨2, [], []⟩, ⟨3, [], []⟩, ⟨4, [], []⟩, ⟨5, [], []⟩, ⟨6, [], []⟩, ⟨7, [], []⟩, ⟨8, [], []⟩, ⟨9, [], []⟩, ⟨10, [], []⟩, ⟨11, [], []⟩, ⟨12, [], []⟩, ⟨13, [], []⟩, ⟨14, [], []⟩, ⟨15, [], []⟩, ⟨16, [], []⟩])) .e
 .e)
 .e)
 .e)))) .e .e
noncomputable def Tryz.cF492 : Tr CF := .n (some (mkF Tryz.f492 (.e))) .e .e
noncomputable def Tryz.cF491 : Tr CF := .n (some (mkF Tryz.f491 (.n (some ([⟨0, [], []⟩, ⟨1, [], []⟩, ⟨2, [], []⟩, ⟨3, [], []⟩, ⟨4, [], []⟩, ⟨5, [], []⟩, ⟨6, [], []⟩, ⟨7, [], []⟩, ⟨8, [], []⟩, ⟨9, [], []⟩, ⟨10, [], []⟩, ⟨11, [], []⟩, ⟨12, [], []⟩, ⟨13, [], []⟩, ⟨14, [], []⟩, ⟨15, [], []⟩, ⟨16, [], []⟩, ⟨17, [], []⟩, ⟨18, [], []⟩, ⟨19, [], []⟩, ⟨20, [], []⟩, ⟨21, [], []⟩, ⟨22, [], []⟩, ⟨23, [], []⟩, ⟨24, [], []⟩, ⟨25, [], []⟩, ⟨26, [], []⟩, ⟨27, [], []⟩])) .e
 .e))) .e .e
noncomputable def Tryz.cF490 : Tr CF := .n (some (mkF Tryz.f490 (.e))) .e .e
noncomputable def Tryz.cF489 : Tr CF := .n (some (mkF Tryz.f489 (.n none .e
 (.n (some ([⟨0, [], []⟩, ⟨1, [], []⟩, ⟨2, [], []⟩, ⟨3, [], []⟩, ⟨4, [], []⟩, ⟨5, [], []⟩, ⟨6, [], []⟩, ⟨7, [], []⟩, ⟨8, [], []⟩, ⟨9, [], []⟩, ⟨10, [], []⟩, ⟨11, [], []⟩, ⟨12, [], []⟩, ⟨13, [], []⟩, ⟨14, [], []⟩, ⟨15, [], []⟩])) .e
 .e)))) .e .e
noncomputable def Tryz.cF488 : Tr CF := .n (some (mkF Tryz.f488 (.e))) .e .e
noncomputable def Tryz.cF487 : Tr CF := .n (some (mkF Tryz.f487 (.n none .e
 (.n none (.n (some ([⟨0, [], []⟩, ⟨1, [], []⟩, ⟨2, [], []⟩, ⟨3, [], []⟩, ⟨4, [], []⟩, ⟨5, [], []⟩, ⟨6, [], []⟩])) .e
 .e)
 .e)))) .e .e
noncomputable def Tryz.cF486 : Tr CF := .n (some (mkF Tryz.f486 (.n none (.n none (.n none (.n none (.n (some ([⟨0, [], []⟩, ⟨1, [], []⟩, ⟨2, [], []⟩, ⟨3, [], []⟩, ⟨5, [], []⟩, ⟨6, [], []⟩, ⟨7, [], []⟩, ⟨8, [], []⟩, ⟨9, [], []⟩, ⟨10, [], []⟩, ⟨11, [], []⟩, ⟨12, [], []⟩, ⟨13, [], []⟩, ⟨14, [], []⟩, ⟨15, [], []⟩, ⟨16, [], []⟩, ⟨4, [8, 10, 14], []⟩, ⟨17, [], []⟩, ⟨18, [], []⟩, ⟨19, [], []⟩])) .e
 .e)
 .e)
 .e)
 (.n none .e
 (.n (some ([⟨0, [], []⟩, ⟨1, [], []⟩, ⟨2, [], []⟩, ⟨3, [], []⟩, ⟨4, [], []⟩, ⟨5, [], []⟩, ⟨6, [], []⟩, ⟨7, [], []⟩])) .e
 .e)))
 (.n none (.n none (.n none (.n (some ([⟨0, [], []⟩, ⟨1, [], []⟩, ⟨2, [], []⟩, ⟨3, [], []⟩, ⟨4, [], []⟩, ⟨5, [], []⟩, ⟨6, [], []⟩, ⟨7, [], []⟩, ⟨8, [], []⟩, ⟨9, [], []⟩, ⟨10, [], []⟩, ⟨11, [], []⟩, ⟨12, [], []⟩, ⟨13, [], []⟩, ⟨14, [], []⟩, ⟨15, [], []⟩, ⟨16, [], []⟩, ⟨17, [], []⟩, ⟨18, [], []⟩, ⟨19, [], []⟩])) .e
 .e)
 .e)
 .e)
 (.n (some ([⟨0, [], []⟩, ⟨1, [], []⟩, ⟨2, [], []⟩, ⟨3, [], []⟩, ⟨4, [], []⟩, ⟨5, [], []⟩, ⟨6, [], []⟩, ⟨7, [], []⟩, ⟨8, [], []⟩, ⟨9, [], []⟩, ⟨10, [], []⟩, ⟨11, [], []⟩, ⟨12, [], []⟩, ⟨13, [], []⟩, ⟨14, [], []⟩, ⟨15, [], []⟩, ⟨16, [], []⟩, ⟨17, [], []⟩, ⟨18, [], []⟩, ⟨19, [], []⟩])) .e
 (.n (some ([⟨0, [], []⟩, ⟨1, [], []⟩, ⟨2, [], []⟩, ⟨3, [], []⟩, ⟨4, [], []⟩, ⟨5, [], []⟩, ⟨6, [], []⟩, ⟨7, [], []⟩, ⟨8, [], []⟩, ⟨9, [], []⟩, ⟨10, [], []⟩, ⟨11, [], []⟩, ⟨12, [], []⟩, ⟨13, [], []⟩, ⟨14, [], []⟩, ⟨15, [], []⟩, ⟨16, [], []⟩, ⟨17, [], []⟩, ⟨18, [], []⟩, ⟨19, [], []⟩, ⟨20, [], []⟩, ⟨21, [], []⟩, ⟨22, [], []⟩, ⟨23, [], []⟩, ⟨24, [], []⟩, ⟨25, [], []⟩, ⟨26, [], []⟩, ⟨27, [], []⟩, ⟨28, [], []⟩, ⟨29, [], []⟩, ⟨30, [], []⟩, ⟨31, [], []⟩, ⟨32, [], []⟩])) .e
 .e)))))) .e .e
noncomputable def Tryz.cF485 : Tr CF := .n (some (mkF Tryz.f485 (.e))) .e .e
noncomputable def Tryz.cF484 : Tr CF := .n (some (mkF Tryz.f484 (.n (some ([⟨0, [], []⟩, ⟨1, [], []⟩, ⟨2, [], []⟩, ⟨3, [], []⟩, ⟨4, [], []⟩, ⟨5, [], []⟩, ⟨6, [], []⟩, ⟨7, [], []⟩, ⟨8, [], []⟩, ⟨9, [], []⟩, ⟨10, [], []⟩, ⟨11, [], []⟩, ⟨12, [], []⟩, ⟨13, [], []⟩, ⟨14, [], []⟩, ⟨15, [], []⟩, ⟨16, [], []⟩, ⟨17, [], []⟩, ⟨18, [], []⟩, ⟨19, [], []⟩, ⟨20, [], []⟩, ⟨21, [], []⟩, ⟨22, [], []⟩, ⟨23, [], []⟩, ⟨24, [], []⟩])) .e
 .e))) .e .e
noncomputable def Tryz.cF483 : Tr CF := .n (some (mkF Tryz.f483 (.n (some ([⟨0, [], []⟩, ⟨1, [], []⟩, ⟨2, [], []⟩, ⟨3, [], []⟩, ⟨4, [], []⟩, ⟨5, [], []⟩, ⟨6, [], []⟩, ⟨7, [], []⟩, ⟨8, [], []⟩, ⟨9, [], []⟩, ⟨10, [], []⟩])) .e
 (.n none .e
 (.n (some ([⟨0, [], []⟩, ⟨1, [], []⟩, ⟨2, [], []⟩, ⟨3, [], []⟩, ⟨4, [], []⟩, ⟨5, [], []⟩, ⟨6, [], []⟩, ⟨7, [], []⟩, ⟨8, [], []⟩, ⟨9, [], []⟩, ⟨10, [], []⟩, ⟨12, [], []⟩, ⟨11, [3, 7], []⟩, ⟨13, [], []⟩, ⟨14, [3, 7], []⟩, ⟨15, [], []⟩, ⟨16, [], []⟩])) .e
 .e))))) .e .e
noncomputable def Tryz.cF482 : Tr CF := .n (some (mkF Tryz.f482 (.n none (.n none (.n (some ([⟨0, [], []⟩, ⟨1, [], []⟩, ⟨2, [], []⟩, ⟨3, [], []⟩, ⟨4, [], []⟩, ⟨5, [], []⟩, ⟨6, [], []⟩, ⟨7, [], []⟩, ⟨8, [], []⟩, ⟨9, [], []⟩, ⟨10, [], []⟩])) .e
 .e)
 .e)
 .e))) .e .e
noncomputable def Tryz.cF481 : Tr CF := .n (some (mkF Tryz.f481 (.n none (.n none (.n none .e
 (.n (some ([⟨0, [], []⟩, ⟨1, [], []⟩, ⟨2, [], []⟩, ⟨4, [], []⟩, ⟨5, [], []⟩, ⟨6, [], []⟩, ⟨7, [], []⟩, ⟨8, [], []⟩, ⟨9, [], []⟩, ⟨10, [], []⟩, ⟨11, [], []⟩, ⟨12, [], []⟩, ⟨13, [], []⟩, ⟨14, [], []⟩, ⟨15, [], []⟩, ⟨16, [], []⟩, ⟨17, [], []⟩, ⟨18, [], []⟩, ⟨19, [], []⟩, ⟨3, [5, 7, 10, 12, 14, 16, 18], []⟩, ⟨20, [], []⟩, ⟨21, [], []⟩, ⟨22, [], []⟩])) .e
 .e))
 .e)
 (.n (some ([⟨0, [], []⟩, ⟨1, [], []⟩, ⟨2, [], []⟩, ⟨3, [], []⟩, ⟨4, [], []⟩, ⟨5, [], []⟩, ⟨6, [], []⟩, ⟨7, [], []⟩, ⟨8, [], []⟩, ⟨9, [], []⟩, ⟨10, [], []⟩])) (.n none (.n (some ([⟨0, [], []⟩, ⟨1, [], []⟩, ⟨2, [], []⟩, ⟨3, [], []⟩, ⟨4, [], []⟩, ⟨5, [], []⟩, ⟨6, [], []⟩, ⟨7, [], []⟩, ⟨8, [], []⟩, ⟨9, [], []⟩, ⟨10, [], []⟩, ⟨11, [], []⟩, ⟨12, [], []⟩, ⟨13, [], []⟩, ⟨14, [], []⟩, ⟨15, [], []⟩, ⟨16, [], []⟩, ⟨17, [], []⟩])) .e
 .e)
 (.n (some ([⟨0, [], []⟩, ⟨1, [], []⟩, ⟨2, [], []⟩, ⟨3, [], []⟩, ⟨4, [], []⟩, ⟨5, [], []⟩, ⟨6, [], []⟩, ⟨7, [], []⟩, ⟨8, [], []⟩, ⟨9, [], []⟩, ⟨10, [], []⟩, ⟨11, [], []⟩, ⟨12, [], []⟩, ⟨13, [], []⟩, ⟨14, [], []⟩, ⟨15, [], []⟩, ⟨16, [], []⟩, ⟨17, [], []⟩, ⟨18, [], []⟩, ⟨19, [], []⟩, ⟨20, [], []⟩, ⟨21, [], []⟩, ⟨22, [], []⟩, ⟨23, [], []⟩, ⟨24, [], []⟩, ⟨25, [], []⟩, ⟨26, [], []⟩, ⟨27, [], []⟩, ⟨28, [], []⟩, ⟨29, [], []⟩, ⟨30, [], []⟩, ⟨31, [], []⟩, ⟨32, [], []⟩, ⟨33, [], []⟩])) .e
 .e))
 .e)))) .e .e
noncomputable def Tryz.cF480 : Tr CF := .n (some (mkF Tryz.f480 (.e))) .e .e
noncomputable def Tryz.cF479 : Tr CF := .n (some (mkF Tryz.f479 (.e))) .e .e
noncomputable def Tryz.cF478 : Tr CF := .n (some (mkF Tryz.f478 (.n none (.n (some ([⟨0, [], []⟩, ⟨1, [], []⟩, ⟨2, [], []⟩, ⟨3, [], []⟩, ⟨4, [], []⟩, ⟨5, [], []⟩, ⟨6, [], []⟩, ⟨7, [], []⟩, ⟨8, [], []⟩, ⟨9, [], []⟩, ⟨10, [], []⟩, ⟨11, [], []⟩, ⟨12, [], []⟩, ⟨13, [], []⟩, ⟨14, [], []⟩, ⟨15, [], []⟩, ⟨16, [], []⟩, ⟨17, [], []⟩, ⟨18, [], []⟩, ⟨19, [], []⟩, ⟨20, [], []⟩, ⟨21, [], []⟩, ⟨22, [], []⟩, ⟨23, [], []⟩, ⟨24, [], []⟩, ⟨25, [], []⟩, ⟨26, [], []⟩, ⟨27, [], []⟩, ⟨28, [16, 20, 24], []⟩, ⟨29, [], []⟩])) .e
 (.n (some ([⟨0, [], []⟩, ⟨1, [], []⟩, ⟨2, [], []⟩, ⟨3, [], []⟩, ⟨4, [], []⟩, ⟨5, [], []⟩, ⟨6, [], []⟩])) .e
 .e))
 (.n none .e
 (.n (some ([⟨0, [], []⟩, ⟨1, [], []⟩, ⟨2, [], []⟩, ⟨3, [], []⟩, ⟨4, [], []⟩, ⟨5, [], []⟩, ⟨6, [], []⟩, ⟨7, [], []⟩])) .e
 .e))))) .e .e
noncomputable def Tryz.cF477 : Tr CF := .n (some (mkF Tryz.f477 (.e))) .e .e
noncomputable def Tryz.cF476 : Tr CF := .n (some (mkF Tryz.f476 (.e))) .e .e
noncomputable def Tryz.cF475 : Tr CF := .n (some (mkF Tryz.f475 (.n none (.n (some ([⟨0, [], []⟩, ⟨1, [], []⟩, ⟨2, [], []⟩, ⟨3, [], []⟩, ⟨5, [], []⟩, ⟨6, [], []⟩, ⟨7, [], []⟩, ⟨8, [], []⟩, ⟨10, [], []⟩, ⟨11, [], []⟩, ⟨12, [], []⟩, ⟨13, [], []⟩, ⟨4, [6, 8, 11, 13], []⟩, ⟨9, [11, 13], []⟩, ⟨14, [], []⟩, ⟨15, [], []⟩, ⟨16, [], []⟩, ⟨17, [], []⟩])) .e
 .e)
 .e))) .e .e
noncomputable def Tryz.cF474 : Tr CF := .n (some (mkF Tryz.f474 (.e))) .e .e
noncomputable def Tryz.cF473 : Tr CF := .n (some (mkF Tryz.f473 (.e))) .e .e
noncomputable def Tryz.cF472 : Tr CF := .n (some (mkF Tryz.f472 (.e))) .e .e
noncomputable def Tryz.cF471 : Tr CF := .n (some (mkF Tryz.f471 (.e))) .e .e
noncomputable def Tryz.cF470 : Tr CF := .n (some (mkF Tryz.f470 (.n none (.n (some ([⟨0, [], []⟩, ⟨1, [], []⟩, ⟨2, [], []⟩, ⟨3, [], []⟩, ⟨4, [], []⟩, ⟨5, [], []⟩, ⟨6, [], []⟩, ⟨7, [], []⟩, ⟨8, [], []⟩, ⟨9, [], []⟩, ⟨10, [], []⟩, ⟨11, [], []⟩, ⟨12, [], []⟩])) .e
 .e)
 .e))) .e .e
noncomputable def Tryz.cF469 : Tr CF := .n (some (mkF Tryz.f469 (.e))) .e .e
noncomputable def Tryz.cF468 : Tr CF := .n (some (mkF Tryz.f468 (.e))) .e .e
noncomputable def Tryz.cF467 : Tr CF := .n (some (mkF Tryz.f467 (.e))) .e .e
noncomputable def Tryz.cF466 : Tr CF := .n (some (mkF Tryz.f466 (.e))) .e .e
noncomputable def Tryz.cF465 : Tr CF := .n (some (mkF Tryz.f465 (.e))) .e .e
noncomputable def Tryz.cF464 : Tr CF := .n (some (mkF Tryz.f464 (.e))) .e .e
noncomputable def Tryz.cF463 : Tr CF := .n (some (mkF Tryz.f463 (.e))) .e .e
noncomputable def Tryz.cF462 : Tr CF := .n (some (mkF Tryz.f462 (.n none .e
 (.n none .e
 (.n none .e
 (.n (some ([⟨0, [], []⟩, ⟨1, [], []⟩, ⟨2, [], []⟩, ⟨3, [], []⟩, ⟨4, [], []⟩, ⟨5, [], []⟩, ⟨6, [5], []⟩, ⟨7, [], []⟩])) .e
 .e)))))) .e .e
noncomputable def Tryz.cF461 : Tr CF := .n (some (mkF Tryz.f461 (.n none .e
 (.n (some ([⟨0, [], []⟩, ⟨1, [], []⟩, ⟨2, [], []⟩, ⟨3, [], []⟩, ⟨4, [], []⟩, ⟨5, [], []⟩, ⟨6, [], []⟩, ⟨7, [], []⟩, ⟨8, [], []⟩, ⟨9, [], []⟩, ⟨10, [], []⟩, ⟨11, [], []⟩, ⟨12, [], []⟩])) .e
 .e)))) .e .e
noncomputable def Tryz.cF460 : Tr CF := .n (some (mkF Tryz.f460 (.e))) .e .e
noncomputable def Tryz.cF459 : Tr CF := .n (some (mkF Tryz.f459 (.e))) .e .e
noncomputable def Tryz.cF458 : Tr CF := .n (some (mkF Tryz.f458 (.e))) .e .e
noncomputable def Tryz.cF457 : Tr CF := .n (some (mkF Tryz.f457 (.e))) .e .e
noncomputable def Tryz.cF456 : Tr CF := .n (some (mkF Tryz.f456 (.n none (.n none (.n (some ([⟨0, [], []⟩, ⟨1, [], []⟩, ⟨2, [], []⟩, ⟨3, [], []⟩, ⟨4, [], []⟩, ⟨5, [], []⟩, ⟨6, [], []⟩, ⟨7, [], []⟩, ⟨8, [], []⟩])) .e
 .e)
 .e)
 .e))) .e .e
noncomputable def Tryz.cF455 : Tr CF := .n (some (mkF Tryz.f455 (.n none (.n none .e
 (.n none (.n none (.n (some ([⟨0, [], []⟩, ⟨1, [], []⟩, ⟨2, [], []⟩, ⟨3, [], []⟩, ⟨4, [], []⟩, ⟨5, [], []⟩, ⟨6, [], []⟩, ⟨7, [], []⟩, ⟨8, [], []⟩, ⟨9, [], []⟩, ⟨10, [], []⟩, ⟨11, [], []⟩, ⟨12, [], []⟩, ⟨13, [], []⟩, ⟨14, [], []⟩, ⟨15, [], []⟩, ⟨16, [], []⟩])) .e
 .e)
 .e)
 .e))
 .e))) .e .e
noncomputable def Tryz.cF454 : Tr CF := .n (some (mkF Tryz.f454 (.e))) .e .e
noncomputable def Tryz.cF453 : Tr CF := .n (some (mkF Tryz.f453 (.e))) .e .e
noncomputable def Tryz.cF452 : Tr CF := .n (some (mkF Tryz.f452 (.e))) .e .e
noncomputable def Tryz.cF451 : Tr CF := .n (some (mkF Tryz.f451 (.e))) .e .e
noncomputable def Tryz.cF450 : Tr CF := .n (some (mkF Tryz.f450 (.e))) .e .e
noncomputable def Tryz.cF449 : Tr CF := .n (some (mkF Tryz.f449 (.e))) .e .e
noncomputable def Tryz.cF448 : Tr CF := .n (some (mkF Tryz.f448 (.e))) .e .e
noncomputable def Tryz.cF447 : Tr CF := .n (some (mkF Tryz.f447 (.e))) .e .e
noncomputable def Tryz.cF446 : Tr CF := .n (some (mkF Tryz.f446 (.e))) .e .e
noncomputable def Tryz.cF445 : Tr CF := .n (some (mkF Tryz.f445 (.n none .e
 (.n none (.n none .e
 (.n (some ([⟨0, [], []⟩, ⟨1, [], []⟩, ⟨2, [], []⟩, ⟨3, [], []⟩, ⟨4, [], []⟩, ⟨5, [], []⟩, ⟨6, [], []⟩, ⟨7, [], []⟩, ⟨8, [], []⟩, ⟨9, [], []⟩, ⟨10, [], []⟩, ⟨11, [], []⟩, ⟨12, [], []⟩, ⟨13, [], []⟩, ⟨14, [], []⟩, ⟨15, [], []⟩, ⟨16, [], []⟩, ⟨17, [], []⟩, ⟨18, [], []⟩])) .e
 .e))
 .e)))) .e .e
noncomputable def Tryz.cF444 : Tr CF := .n (some (mkF Tryz.f444 (.e))) .e .e
noncomputable def Tryz.cF443 : Tr CF := .n (some (mkF Tryz.f443 (.n none (.n (some ([⟨0, [], []⟩, ⟨1, [], []⟩, ⟨2, [], []⟩, ⟨3, [], []⟩, ⟨4, [], []⟩, ⟨5, [], []⟩, ⟨6, [], []⟩, ⟨7, [], []⟩, ⟨8, [], []⟩, ⟨9, [], []⟩, ⟨10, [], []⟩])) .e
 .e)
 .e))) .e .e
noncomputable def Tryz.cF442 : Tr CF := .n (some (mkF Tryz.f442 (.e))) .e .e
noncomputable def Tryz.cF441 : Tr CF := .n (some (mkF Tryz.f441 (.e))) .e .e
noncomputable def Tryz.cF440 : Tr CF := .n (some (mkF Tryz.f440 (.e))) .e .e
noncomputable def Tryz.cF439 : Tr CF := .n none .e .e
noncomputable def Tryz.cF438 : Tr CF := .n (some (mkF Tryz.f438 (.e))) .e .e
noncomputable def Tryz.cF437 : Tr CF := .n (some (mkF Tryz.f437 (.e))) .e .e
noncomputable def Tryz.cF436 : Tr CF := .n (some (mkF Tryz.f436 (.e))) .e .e
noncomputable def Tryz.cF435 : Tr CF := .n (some (mkF Tryz.f435 (.e))) .e .e
noncomputable def Tryz.cF434 : Tr CF := .n (some (mkF Tryz.f434 (.e))) .e .e
noncomputable def Tryz.cF433 : Tr CF := .n (some (mkF Tryz.f433 (.e))) .e .e
noncomputable def Tryz.cF432 : Tr CF := .n (some (mkF Tryz.f432 (.e))) .e .e
noncomputable def Tryz.cF431 : Tr CF := .n (some (mkF Tryz.f431 (.e))) .e .e
noncomputable def Tryz.cF430 : Tr CF := .n (some (mkF Tryz.f430 (.e))) .e .e
noncomputable def Tryz.cF429 : Tr CF := .n (some (mkF Tryz.f429 (.n none (.n (some ([⟨0, [], []⟩, ⟨1, [], []⟩, ⟨2, [], []⟩, ⟨3, [], []⟩, ⟨4, [], []⟩, ⟨5, [], []⟩, ⟨6, [], []⟩, ⟨7, [], []⟩, ⟨8, [], []⟩, ⟨9, [], []⟩, ⟨10, [], []⟩, ⟨11, [], []⟩, ⟨12, [], []⟩, ⟨13, [], []⟩, ⟨14, [], []⟩, ⟨15, [], []⟩])) (.n (some ([⟨0, [], []⟩, ⟨1, [], []⟩, ⟨2, [], []⟩, ⟨3, [], []⟩, ⟨4, [], []⟩, ⟨5, [], []⟩, ⟨6, [], []⟩, ⟨7, [], []⟩, ⟨8, [], []⟩, ⟨9, [], []⟩, ⟨10, [], []⟩, ⟨11, [], []⟩, ⟨12, [], []⟩, ⟨13, [], []⟩, ⟨14, [], []⟩, ⟨15, [], []⟩])) (.n none (.n (some ([⟨0, [], []⟩, ⟨1, [], []⟩, ⟨2, [], []⟩, ⟨3, [], []⟩, ⟨4, [], []⟩, ⟨5, [], []⟩, ⟨6, [], []⟩, ⟨7, [], []⟩, ⟨8, [], []⟩, ⟨9, [], []⟩, ⟨10, [], []⟩, ⟨11, [], []⟩, ⟨12, [], []⟩, ⟨13, [], []⟩, ⟨14, [], []⟩, ⟨15, [], []⟩, ⟨16, [], []⟩])) .e
 .e)
 .e)
 .e)
 (.n (some ([⟨0, [], []⟩, ⟨1, [], []⟩, ⟨2, [], []⟩, ⟨3, [], []⟩, ⟨4, [], []⟩, ⟨5, [], []⟩, ⟨6, [], []⟩, ⟨7, [], []⟩, ⟨8, [], []⟩, ⟨9, [], []⟩, ⟨10, [], []⟩, ⟨11, [], []⟩, ⟨12, [], []⟩, ⟨13, [], []⟩, ⟨14, [], []⟩, ⟨15, [], []⟩, ⟨16, [], []⟩])) .e
 (.n (some ([⟨0, [], []⟩, ⟨1, [], []⟩, ⟨2, [], []⟩, ⟨3, [], []⟩, ⟨4, [], []⟩, ⟨5, [], []⟩, ⟨6, [], []⟩, ⟨7, [], []⟩, ⟨8, [], []⟩, ⟨9, [], []⟩, ⟨10, [], []⟩, ⟨11, [], []⟩, ⟨12, [], []⟩, ⟨13, [], []⟩, ⟨14, [], []⟩, ⟨15, [], []⟩])) (.n (some ([⟨0, [], []⟩, ⟨1, [], []⟩, ⟨2, [], []⟩, ⟨3, [], []⟩, ⟨4, [], []⟩, ⟨5, [], []⟩, ⟨6, [], []⟩, ⟨7, [], []⟩, ⟨8, [], []⟩, ⟨9, [], []⟩, ⟨10, [], []⟩, ⟨11, [], []⟩, ⟨12, [], []⟩, ⟨13, [], []⟩, ⟨14, [], []⟩, ⟨15, [], []⟩])) .e
 .e)
 .e)))
 (.n none (.n none (.n (some ([⟨0, [], []⟩, ⟨1, [], []⟩, ⟨2, [], []⟩, ⟨3, [], []⟩, ⟨4, [], []⟩, ⟨5, [], []⟩, ⟨6, [], []⟩, ⟨7, [], []⟩, ⟨8, [], []⟩, ⟨9, [], []⟩, ⟨10, [], []⟩, ⟨11, [], []⟩, ⟨12, [], []⟩, ⟨13, [], []⟩, ⟨14, [], []⟩, ⟨15, [], []⟩])) .e
 .e)
 .e)
 (.n none (.n (some ([⟨0, [], []⟩, ⟨1, [], []⟩, ⟨2, [], []⟩, ⟨3, [], []⟩, ⟨4, [], []⟩, ⟨5, [], []⟩, ⟨6, [], []⟩, ⟨7, [], []⟩, ⟨8, [], []⟩, ⟨9, [], []⟩, ⟨10, [], []⟩, ⟨11, [], []⟩, ⟨12, [], []⟩, ⟨13, [], []⟩, ⟨14, [], []⟩, ⟨15, [], []⟩])) (.n (some ([⟨0, [], []⟩, ⟨1, [], []⟩, ⟨2, [], []⟩, ⟨3, [], []⟩, ⟨4, [], []⟩, ⟨5, [], []⟩, ⟨6, [], []⟩, ⟨7, [], []⟩, ⟨8, [], []⟩, ⟨9, [], []⟩, ⟨10, [], []⟩, ⟨11, [], []⟩, ⟨12, [], []⟩, ⟨13, [], []⟩, ⟨14, [], []⟩, ⟨15, [], []⟩])) .e
 .e)
 .e)
 .e))))) .e .e
noncomputable def Tryz.cF428 : Tr CF := .n (some (mkF Tryz.f428 (.n none (.n (some ([⟨0, [], []⟩, ⟨1, [], []⟩, ⟨2, [], []⟩, ⟨3, [], []⟩, ⟨4, [], []⟩, ⟨5, [], []⟩, ⟨6, [], []⟩, ⟨7, [], []⟩, ⟨8, [], []⟩, ⟨9, [], []⟩, ⟨10, [], []⟩, ⟨11, [], []⟩, ⟨12, [], []⟩, ⟨13, [], []⟩, ⟨14, [], []⟩, ⟨15, [], []⟩])) (.n (some ([⟨0, [], []⟩, ⟨1, [], []⟩, ⟨2, [], []⟩, ⟨3, [], []⟩, ⟨4, [], []⟩, ⟨5, [], []⟩, ⟨6, [], []⟩, ⟨7, [], []⟩, ⟨8, [], []⟩, ⟨9, [], []⟩, ⟨10, [], []⟩, ⟨11, [], []⟩, ⟨12, [], []⟩, ⟨13, [], []⟩, ⟨14, [], []⟩, ⟨15, [], []⟩, ⟨16, [], []⟩])) .e
 .e)
 (.n (some ([⟨0, [], []⟩, ⟨1, [], []⟩, ⟨2, [], []⟩, ⟨3, [], []⟩, ⟨4, [], []⟩, ⟨5, [], []⟩, ⟨6, [], []⟩, ⟨7, [], []⟩, ⟨8, [], []⟩, ⟨9, [], []⟩, ⟨10, [], []⟩, ⟨11, [], []⟩, ⟨12, [], []⟩, ⟨13, [], []⟩, ⟨14, [], []⟩, ⟨15, [], []⟩])) .e
 .e))
 (.n none (.n none (.n (some ([⟨0, [], []⟩, ⟨1, [], []⟩, ⟨2, [], []⟩, ⟨3, [], []⟩, ⟨4, [], []⟩, ⟨5, [], []⟩, ⟨6, [], []⟩, ⟨7, [], []⟩, ⟨8, [], []⟩, ⟨9, [], []⟩, ⟨10, [], []⟩, ⟨11, [], []⟩, ⟨12, [], []⟩, ⟨13, [], []⟩, ⟨14, [], []⟩, ⟨15, [], []⟩])) .e
 .e)
 .e)
 .e)))) .e .e
noncomputable def Tryz.cF427 : Tr CF := .n (some (mkF Tryz.f427 (.n none (.n none (.n none (.n none .e
 (.n (some ([⟨0, [], []⟩, ⟨1, [], []⟩, ⟨2, [], []⟩, ⟨3, [], []⟩, ⟨4, [], []⟩, ⟨5, [], []⟩, ⟨6, [], []⟩, ⟨7, [], []⟩, ⟨8, [], []⟩, ⟨9, [], []⟩, ⟨10, [], []⟩, ⟨11, [], []⟩, ⟨12, [], []⟩, ⟨13, [], []⟩, ⟨14, [], []⟩, ⟨15, [], []⟩, ⟨16, [], []⟩, ⟨17, [], []⟩])) .e
 .e))
 (.n (some ([⟨0, [], []⟩, ⟨1, [], []⟩, ⟨2, [], []⟩, ⟨3, [], []⟩, ⟨4, [], []⟩, ⟨5, [], []⟩, ⟨6, [], []⟩, ⟨7, [], []⟩, ⟨8, [], []⟩, ⟨9, [], []⟩, ⟨10, [], []⟩, ⟨11, [], []⟩, ⟨12, [], []⟩, ⟨13, [], []⟩, ⟨14, [], []⟩, ⟨15, [], []⟩, ⟨16, [], []⟩, ⟨17, [], []⟩])) .e
 .e))
 (.n (some ([⟨0, [], []⟩, ⟨1, [], []⟩, ⟨2, [], []⟩, ⟨3, [], []⟩, ⟨4, [], []⟩, ⟨5, [], []⟩, ⟨6, [], []⟩, ⟨7, [], []⟩, ⟨8, [], []⟩, ⟨9, [], []⟩, ⟨10, [], []⟩, ⟨11, [], []⟩, ⟨12, [], []⟩, ⟨13, [], []⟩, ⟨14, [], []⟩, ⟨15, [], []⟩, ⟨16, [], []⟩, ⟨17, [], []⟩])) (.n none (.n (some ([⟨0, [], []⟩, ⟨1, [], []⟩, ⟨2, [], []⟩, ⟨3, [], []⟩, ⟨4, [], []⟩, ⟨5, [], []⟩, ⟨6, [], []⟩, ⟨7, [], []⟩, ⟨8, [], []⟩, ⟨9, [], []⟩, ⟨10, [], []⟩, ⟨11, [], []⟩, ⟨12, [], []⟩, ⟨13, [], []⟩, ⟨14, [], []⟩, ⟨15, [], []⟩, ⟨16, [], []⟩, ⟨17, [], []⟩])) .e
 .e)
 .e)
 .e))
 (.n none (.n none (.n none (.n (some ([⟨0, [], []⟩, ⟨1, [], []⟩, ⟨2, [], []⟩, ⟨3, [], []⟩, ⟨4, [], []⟩, ⟨5, [], []⟩, ⟨6, [], []⟩, ⟨7, [], []⟩, ⟨8, [], []⟩, ⟨9, [], []⟩, ⟨10, [], []⟩, ⟨11, [], []⟩, ⟨12, [], []⟩])) .e
 .e)
 .e)
 .e)
 (.n none .e
 (.n none (.n (some ([⟨0, [], []⟩, ⟨1, [], []⟩, ⟨2, [], []⟩, ⟨3, [], []⟩, ⟨4, [], []⟩, ⟨5, [], []⟩, ⟨6, [], []⟩, ⟨7, [], []⟩, ⟨8, [], []⟩, ⟨9, [], []⟩, ⟨10, [], []⟩, ⟨11, [], []⟩, ⟨12, [], []⟩])) .e
 .e)
 .e)))))) .e .e
noncomputable def Tryz.cF426 : Tr CF := .n (some (mkF Tryz.f426 (.n none (.n none (.n (some ([⟨0, [], []⟩, ⟨1, [], []⟩, ⟨2, [], []⟩, ⟨3, [], []⟩, ⟨4, [], []⟩, ⟨5, [], []⟩, ⟨6, [], []⟩, ⟨7, [], []⟩, ⟨8, [], []⟩, ⟨9, [], []⟩, ⟨10, [], []⟩, ⟨11, [], []⟩, ⟨12, [], []⟩, ⟨13, [], []⟩, ⟨14, [], []⟩, ⟨15, [], []⟩])) .e
 .e)
 .e)
 .e))) .e .e
noncomputable def Tryz.cF425 : Tr CF := .n (some (mkF Tryz.f425 (.e))) .e .e
noncomputable def Tryz.cF424 : Tr CF := .n (some (mkF Tryz.f424 (.n none .e
 (.n none .e
 (.n none (.n (some ([⟨0, [], []⟩, ⟨1, [], []⟩, ⟨2, [], []⟩, ⟨3, [], []⟩, ⟨4, [], []⟩, ⟨5, [], []⟩, ⟨6, [], []⟩, ⟨7, [], []⟩, ⟨8, [], []⟩, ⟨9, [], []⟩, ⟨10, [], []⟩, ⟨11, [], []⟩, ⟨12, [], []⟩, ⟨13, [], []⟩, ⟨14, [], []⟩, ⟨15, [], []⟩, ⟨16, [], []⟩, ⟨17, [], []⟩, ⟨18, [], []⟩, ⟨19, [], []⟩])) .e
 .e)
 .e))))) .e .e
noncomputable def Tryz.cF423 : Tr CF := .n (some (mkF Tryz.f423 (.n none .e
 (.n none .e
 (.n none (.n (some ([⟨0, [], []⟩, ⟨1, [], []⟩, ⟨2, [], []⟩, ⟨3, [], []⟩, ⟨4, [], []⟩, ⟨5, [], []⟩, ⟨6, [], []⟩, ⟨7, [], []⟩, ⟨8, [], []⟩, ⟨9, [], []⟩, ⟨10, [], []⟩, ⟨11, [], []⟩, ⟨12, [], []⟩, ⟨13, [], []⟩, ⟨14, [], []⟩, ⟨15, [], []⟩, ⟨16, [], []⟩, ⟨17, [], []⟩, ⟨18, [], []⟩, ⟨19, [], []⟩])) .e
 .e)
 .e))))) .e .e
noncomputable def Tryz.cF422 : Tr CF := .n (some (mkF Tryz.f422 (.n none .e
 (.n none (.n (some ([⟨0, [], []⟩, ⟨1, [], []⟩, ⟨2, [], []⟩, ⟨3, [], []⟩, ⟨4, [], []⟩, ⟨5, [], []⟩, ⟨6, [], []⟩, ⟨7, [], []⟩, ⟨8, [], []⟩, ⟨9, [], []⟩, ⟨10, [], []⟩, ⟨11, [], []⟩, ⟨12, [], []⟩, ⟨13, [], []⟩, ⟨14, [], []⟩, ⟨15, [], []⟩, ⟨16, [], []⟩])) .e
 .e)
 (.n (some ([⟨0, [], []⟩, ⟨1, [], []⟩, ⟨2, [], []⟩, ⟨3, [], []⟩, ⟨4, [], []⟩, ⟨5, [], []⟩, ⟨6, [], []⟩, ⟨7, [], []⟩, ⟨8, [], []⟩, ⟨9, [], []⟩, ⟨10, [], []⟩, ⟨11, [], []⟩, ⟨12, [], []⟩, ⟨13, [], []⟩, ⟨14, [], []⟩, ⟨15, [], []⟩, ⟨16, [], []⟩, ⟨17, [], []⟩])) .e
 .e))))) .e .e
noncomputable def Tryz.cF421 : Tr CF := .n (some (mkF Tryz.f421 (.e))) .e .e
noncomputable def Tryz.cF420 : Tr CF := .n (some (mkF Tryz.f420 (.e))) .e .e
noncomputable def Tryz.cF419 : Tr CF := .n (some (mkF Tryz.f419 (.e))) .e .e
noncomputable def Tryz.cF418 : Tr CF := .n (some (mkF Tryz.f418 (.e))) .e .e
noncomputable def Tryz.cF417 : Tr CF := .n (some (mkF Tryz.f417 (.e))) Tryz.cF673 .e
noncomputable def Tryz.cF416 : Tr CF := .n (some (mkF Tryz.f416 (.n none .e
 (.n (some ([⟨0, [], []⟩, ⟨1, [], []⟩, ⟨2, [], []⟩, ⟨3, [], []⟩, ⟨4, [], []⟩, ⟨5, [], []⟩, ⟨6, [], []⟩, ⟨7, [], []⟩, ⟨8, [], []⟩, ⟨9, [], []⟩, ⟨10, [], []⟩, ⟨11, [], []⟩, ⟨12, [], []⟩, ⟨13, [], []⟩, ⟨14, [], []⟩])) .e
 .e)))) Tryz.cF672 .e
noncomputable def Tryz.cF415 : Tr CF := .n (some (mkF Tryz.f415 (.n none .e
 (.n (some ([⟨0, [], []⟩, ⟨1, [], []⟩, ⟨2, [], []⟩, ⟨3, [], []⟩, ⟨4, [], []⟩, ⟨5, [], []⟩, ⟨6, [], []⟩, ⟨7, [], []⟩, ⟨8, [], []⟩, ⟨9, [], []⟩, ⟨10, [], []⟩, ⟨11, [], []⟩, ⟨12, [], []⟩, ⟨13, [], []⟩, ⟨14, [], []⟩, ⟨15, [], []⟩])) .e
 .e)))) Tryz.cF671 .e
noncomputable def Tryz.cF414 : Tr CF := .n (some (mkF Tryz.f414 (.n none (.n (some ([⟨0, [], []⟩, ⟨2, [], []⟩, ⟨1, [2], []⟩, ⟨3, [], []⟩, ⟨4, [], []⟩, ⟨5, [], []⟩])) .e
 .e)
 .e))) Tryz.cF670 .e
noncomputable def Tryz.cF413 : Tr CF := .n (some (mkF Tryz.f413 (.n (some ([⟨0, [], []⟩, ⟨1, [], []⟩, ⟨2, [], []⟩, ⟨3, [], []⟩, ⟨4, [], []⟩, ⟨5, [], []⟩, ⟨6, [], []⟩, ⟨7, [], []⟩, ⟨8, [], []⟩, ⟨9, [], []⟩, ⟨10, [], []⟩])) .e
 (.n none (.n none (.n (some ([⟨0, [], []⟩, ⟨1, [], []⟩, ⟨2, [], []⟩, ⟨3, [], []⟩, ⟨4, [], []⟩, ⟨5, [], []⟩, ⟨6, [], []⟩, ⟨7, [], []⟩, ⟨8, [], []⟩, ⟨9, [], []⟩])) .e
 .e)
 .e)
 (.n (some ([⟨0, [], []⟩, ⟨1, [], []⟩, ⟨2, [], []⟩, ⟨3, [], []⟩, ⟨4, [], []⟩, ⟨5, [], []⟩, ⟨6, [], []⟩, ⟨7, [], []⟩, ⟨8, [], []⟩, ⟨9, [], []⟩, ⟨10, [], []⟩, ⟨12, [], []⟩, ⟨11, [3, 7], []⟩, ⟨13, [], []⟩, ⟨14, [3, 7], []⟩, ⟨15, [], []⟩, ⟨16, [], []⟩])) .e
 .e))))) Tryz.cF669 .e
noncomputable def Tryz.cF412 : Tr CF := .n (some (mkF Tryz.f412 (.e))) Tryz.cF668 .e
noncomputable def Tryz.cF411 : Tr CF := .n (some (mkF Tryz.f411 (.n none (.n (some ([⟨0, [], []⟩, ⟨1, [], []⟩, ⟨2, [], []⟩, ⟨3, [], []⟩, ⟨4, [], []⟩, ⟨5, [], []⟩, ⟨6, [], []⟩, ⟨7, [], []⟩, ⟨8, [], []⟩, ⟨9, [], []⟩, ⟨10, [], []⟩])) (.n (some ([⟨0, [], []⟩, ⟨1, [], []⟩, ⟨3, [], []⟩, ⟨4, [], []⟩, ⟨2, [4], []⟩, ⟨5, [], []⟩, ⟨6, [], []⟩, ⟨7, [], []⟩, ⟨8, [], []⟩])) .e
 (.n (some ([⟨0, [], []⟩, ⟨1, [], []⟩, ⟨2, [], []⟩, ⟨3, [], []⟩, ⟨4, [], []⟩, ⟨5, [], []⟩, ⟨6, [], []⟩, ⟨7, [], []⟩, ⟨8, [], []⟩, ⟨9, [], []⟩, ⟨10, [], []⟩, ⟨11, [], []⟩, ⟨12, [], []⟩, ⟨13, [], []⟩, ⟨14, [], []⟩, ⟨15, [], []⟩, ⟨16, [], []⟩, ⟨17, [], []⟩])) .e
 .e))
 (.n (some ([⟨0, [], []⟩, ⟨1, [], []⟩, ⟨2, [], []⟩, ⟨3, [], []⟩, ⟨4, [], []⟩, ⟨5, [], []⟩, ⟨6, [], []⟩, ⟨7, [], []⟩, ⟨8, [], []⟩, ⟨9, [], []⟩, ⟨10, [], []⟩, ⟨11, [], []⟩, ⟨12, [], []⟩, ⟨13, [], []⟩, ⟨14, [], []⟩, ⟨15, [], []⟩, ⟨16, [], []⟩, ⟨17, [], []⟩])) .e
 (.n (some ([⟨0, [], []⟩, ⟨1, [], []⟩, ⟨2, [], []⟩, ⟨3, [], []⟩, ⟨4, [], []⟩, ⟨5, [], []⟩, ⟨6, [], []⟩, ⟨7, [], []⟩, ⟨8, [], []⟩, ⟨9, [], []⟩, ⟨10, [], []⟩, ⟨11, [], []⟩, ⟨12, [], []⟩, ⟨13, [], []⟩, ⟨14, [], []⟩, ⟨15, [], []⟩, ⟨16, [], []⟩, ⟨17, [], []⟩, ⟨18, [], []⟩, ⟨19, [], []⟩, ⟨20, [], []⟩, ⟨21, [], []⟩, ⟨22, [], []⟩])) .e
 .e)))
 (.n none .e
 (.n (some ([⟨0, [], []⟩, ⟨1, [], []⟩, ⟨2, [], []⟩, ⟨3, [], []⟩, ⟨4, [], []⟩, ⟨5, [], []⟩, ⟨6, [], []⟩, ⟨7, [], []⟩, ⟨8, [], []⟩, ⟨9, [], []⟩, ⟨10, [], []⟩, ⟨11, [], []⟩, ⟨12, [], []⟩, ⟨13, [], []⟩, ⟨14, [], []⟩, ⟨15, [], []⟩, ⟨16, [], []⟩, ⟨17, [], []⟩])) .e
 .e))))) Tryz.cF667 .e
noncomputable def Tryz.cF410 : Tr CF := .n (some (mkF Tryz.f410 (.n none (.n none .e
 (.n none (.n none (.n (some ([⟨0, [], []⟩, ⟨1, [], []⟩, ⟨2, [], []⟩, ⟨3, [], []⟩, ⟨4, [], []⟩, ⟨5, [], []⟩, ⟨6, [], []⟩, ⟨7, [], []⟩, ⟨8, [], []⟩, ⟨9, [], []⟩, ⟨10, [], []⟩, ⟨11, [], []⟩, ⟨12, [], []⟩, ⟨13, [], []⟩, ⟨14, [], []⟩])) .e
 .e)
 .e)
 .e))
 .e))) Tryz.cF666 .e
noncomputable def Tryz.cF409 : Tr CF := .n (some (mkF Tryz.f409 (.e))) Tryz.cF665 .e
noncomputable def Tryz.cF408 : Tr CF := .n (some (mkF Tryz.f408 (.e))) Tryz.cF664 .e
noncomputable def Tryz.cF407 : Tr CF := .n (some (mkF Tryz.f407 (.e))) Tryz.cF663 .e
noncomputable def Tryz.cF406 : Tr CF := .n (some (mkF Tryz.f406 (.e))) Tryz.cF662 .e
noncomputable def Tryz.cF405 : Tr CF := .n (some (mkF Tryz.f405 (.e))) Tryz.cF661 .e
noncomputable def Tryz.cF404 : Tr CF := .n (some (mkF Tryz.f404 (.e))) Tryz.cF660 .e
noncomputable def Tryz.cF403 : Tr CF := .n none Tryz.cF659 .e
noncomputable def Tryz.cF402 : Tr CF := .n (some (mkF Tryz.f402 (.e))) Tryz.cF658 .e
noncomputable def Tryz.cF401 : Tr CF := .n (some (mkF Tryz.f401 (.n none .e
 (.n (some ([⟨0, [], []⟩, ⟨1, [], []⟩, ⟨2, [], []⟩, ⟨3, [], []⟩, ⟨4, [], []⟩, ⟨5, [], []⟩, ⟨6, [], []⟩, ⟨7, [], []⟩, ⟨8, [], []⟩])) (.n none .e
 (.n (some ([⟨0, [], []⟩, ⟨1, [], []⟩, ⟨2, [], []⟩, ⟨3, [], []⟩, ⟨4, [], []⟩, ⟨5, [], []⟩, ⟨6, [], []⟩, ⟨7, [], []⟩, ⟨8, [], []⟩])) .e
 .e))
 (.n (some ([⟨0, [], []⟩, ⟨1, [], []⟩, ⟨2, [], []⟩, ⟨3, [], []⟩, ⟨4, [], []⟩, ⟨5, [], []⟩, ⟨6, [], []⟩, ⟨7, [], []⟩, ⟨8, [], []⟩, ⟨9, [], []⟩, ⟨10, [], []⟩, ⟨11, [], []⟩, ⟨12, [], []⟩, ⟨13, [], []⟩])) .e
 .e))))) Tryz.cF657 .e
noncomputable def Tryz.cF400 : Tr CF := .n (some (mkF Tryz.f400 (.e))) Tryz.cF656 .e
noncomputable def Tryz.cF399 : Tr CF := .n (some (mkF Tryz.f399 (.e))) Tryz.cF655 .e
noncomputable def Tryz.cF398 : Tr CF := .n (some (mkF Tryz.f398 (.n none (.n (some ([⟨0, [], []⟩, ⟨1, [], []⟩, ⟨2, [], []⟩, ⟨3, [], []⟩, ⟨4, [], []⟩, ⟨5, [], []⟩, ⟨6, [], []⟩, ⟨7, [], []⟩, ⟨8, [], []⟩])) (.n none (.n (some ([⟨0, [], []⟩, ⟨1, [], []⟩, ⟨2, [], []⟩, ⟨3, [], []⟩, ⟨4, [], []⟩, ⟨5, [], []⟩])) .e
 .e)
 .e)
 .e)
 (.n none .e
 (.n (some ([⟨0, [], []⟩, ⟨1, [], []⟩, ⟨2, [], []⟩, ⟨3, [], []⟩, ⟨4, [], []⟩, ⟨5, [], []⟩, ⟨6, [], []⟩, ⟨7, [], []⟩, ⟨8, [], []⟩, ⟨9, [], []⟩, ⟨11, [], []⟩, ⟨10, [], []⟩, ⟨12, [], []⟩])) .e
 .e))))) Tryz.cF654 .e
noncomputable def Tryz.cF397 : Tr CF := .n (some (mkF Tryz.f397 (.n none (.n (some ([⟨0, [], []⟩, ⟨1, [], []⟩, ⟨2, [], []⟩, ⟨3, [], []⟩, ⟨4, [0], []⟩, ⟨5, [], []⟩, ⟨6, [], []⟩])) .e
 .e)
 .e))) Tryz.cF653 .e
noncomputable def Tryz.cF396 : Tr CF := .n (some (mkF Tryz.f396 (.e))) Tryz.cF652 .e
noncomputable def Tryz.cF395 : Tr CF := .n (some (mkF Tryz.f395 (.n none (.n none (.n (some ([⟨0, [], []⟩, ⟨1, [], []⟩, ⟨2, [], []⟩, ⟨3, [], []⟩, ⟨4, [], []⟩, ⟨5, [], []⟩, ⟨6, [], []⟩, ⟨7, [], []⟩, ⟨8, [], []⟩, ⟨9, [], []⟩, ⟨10, [], []⟩, ⟨11, [], []⟩, ⟨12, [], []⟩, ⟨13, [], []⟩, ⟨14, [], []⟩, ⟨15, [], []⟩])) .e
 .e)
 .e)
 .e))) Tryz.cF651 .e
noncomputable def Tryz.cF394 : Tr CF := .n (some (mkF Tryz.f394 (.e))) Tryz.cF650 .e
noncomputable def Tryz.cF393 : Tr CF := .n (some (mkF Tryz.f393 (.n none (.n none (.n (some ([⟨0, [], []⟩, ⟨1, [], []⟩, ⟨2, [], []⟩, ⟨3, [], []⟩, ⟨4, [], []⟩, ⟨5, [], []⟩, ⟨6, [], []⟩, ⟨7, [], []⟩, ⟨8, [], []⟩, ⟨9, [], []⟩, ⟨10, [], []⟩, ⟨11, [], []⟩])) .e
 .e)
 .e)
 .e))) Tryz.cF649 .e
noncomputable def Tryz.cF392 : Tr CF := .n (some (mkF Tryz.f392 (.n none (.n none (.n (some ([⟨0, [], []⟩, ⟨1, [], []⟩, ⟨2, [], []⟩, ⟨3, [], []⟩, ⟨4, [], []⟩, ⟨5, [], []⟩, ⟨6, [], []⟩, ⟨7, [], []⟩, ⟨8, [], []⟩, ⟨9, [], []⟩, ⟨10, [], []⟩, ⟨11, [], []⟩])) .e
 .e)
 .e)
 .e))) Tryz.cF648 .e
noncomputable def Tryz.cF391 : Tr CF := .n (some (mkF Tryz.f391 (.n none (.n (some ([⟨0, [], []⟩, ⟨1, [], []⟩, ⟨2, [], []⟩, ⟨3, [], []⟩, ⟨4, [], []⟩, ⟨5, [], []⟩, ⟨6, [], []⟩, ⟨7, [], []⟩, ⟨8, [], []⟩, ⟨9, [], []⟩, ⟨10, [], []⟩, ⟨11, [], []⟩, ⟨13, [], []⟩, ⟨14, [], []⟩, ⟨16, [], []⟩, ⟨12, [1, 3, 7, 9, 10], []⟩, ⟨15, [1, 3, 7, 9, 10], []⟩, ⟨17, [1, 3, 7, 9, 10], []⟩, ⟨18, [], []⟩, ⟨19, [], []⟩, ⟨20, [], []⟩])) (.n none (.n (some ([⟨0, [], []⟩, ⟨1, [], []⟩, ⟨2, [], []⟩, ⟨3, [], []⟩, ⟨4, [], []⟩, ⟨5, [], []⟩, ⟨6, [], []⟩, ⟨7, [], []⟩, ⟨8, [], []⟩, ⟨9, [], []⟩, ⟨10, [], []⟩, ⟨11, [], []⟩, ⟨12, [], []⟩, ⟨13, [], []⟩, ⟨14, [], []⟩, ⟨15, [3, 5], []⟩, ⟨16, [], []⟩, ⟨17, [], []⟩])) .e
 .e)
 .e)
 (.n (some ([⟨0, [], []⟩, ⟨1, [], []⟩, ⟨2, [], []⟩, ⟨3, [], []⟩, ⟨4, [], []⟩, ⟨5, [], []⟩, ⟨6, [], []⟩, ⟨7, [], []⟩, ⟨8, [], []⟩, ⟨9, [], []⟩, ⟨10, [], []⟩, ⟨11, [], []⟩])) (.n (some ([⟨0, [], []⟩, ⟨1, [], []⟩, ⟨2, [], []⟩, ⟨3, [], []⟩, ⟨4, [], []⟩, ⟨5, [], []⟩, ⟨6, [], []⟩, ⟨7, [], []⟩])) .e
 .e)
 .e))
 (.n none .e
 (.n none (.n (some ([⟨0, [], []⟩, ⟨1, [], []⟩, ⟨2, [], []⟩, ⟨3, [], []⟩, ⟨4, [], []⟩, ⟨5, [], []⟩, ⟨6, [], []⟩, ⟨7, [], []⟩, ⟨8, [], []⟩, ⟨9, [], []⟩, ⟨10, [], []⟩, ⟨11, [], []⟩, ⟨12, [], []⟩, ⟨13, [9], []⟩, ⟨14, [], []⟩, ⟨15, [], []⟩])) .e
 .e)
 .e))))) Tryz.cF647 .e
noncomputable def Tryz.cF390 : Tr CF := .n (some (mkF Tryz.f390 (.n none (.n none (.n (some ([⟨0, [], []⟩, ⟨3, [], []⟩, ⟨4, [], []⟩, ⟨6, [], []⟩, ⟨7, [], []⟩, ⟨8, [], []⟩, ⟨1, [8], []⟩, ⟨2, [], []⟩, ⟨5, [8], []⟩, ⟨9, [], []⟩, ⟨10, [], []⟩, ⟨11, [], []⟩, ⟨12, [], []⟩])) .e
 (.n (some ([⟨0, [], []⟩, ⟨1, [], []⟩, ⟨2, [], []⟩, ⟨3, [], []⟩, ⟨4, [], []⟩, ⟨5, [], []⟩, ⟨6, [], []⟩, ⟨7, [], []⟩, ⟨8, [], []⟩, ⟨9, [], []⟩, ⟨10, [], []⟩])) .e
 .e))
 (.n none .e
 (.n none (.n (some ([⟨0, [], []⟩, ⟨1, [], []⟩, ⟨2, [], []⟩, ⟨3, [], []⟩, ⟨4, [], []⟩, ⟨5, [], []⟩, ⟨6, [], []⟩, ⟨7, [], []⟩, ⟨8, [], []⟩])) .e
 .e)
 .e)))
 (.n none (.n none (.n none (.n (some ([⟨0, [], []⟩, ⟨1, [], []⟩, ⟨2, [], []⟩, ⟨3, [], []⟩, ⟨4, [], []⟩, ⟨5, [], []⟩, ⟨6, [], []⟩, ⟨7, [], []⟩, ⟨8, [], []⟩, ⟨9, [], []⟩, ⟨10, [], []⟩, ⟨11, [], []⟩, ⟨12, [], []⟩, ⟨13, [], []⟩, ⟨14, [], []⟩, ⟨15, [], []⟩, ⟨16, [], []⟩, ⟨17, [], []⟩])) .e
 .e)
 .e)
 (.n (some ([⟨0, [], []⟩, ⟨1, [], []⟩, ⟨2, [], []⟩, ⟨3, [], []⟩, ⟨4, [], []⟩, ⟨5, [], []⟩, ⟨6, [], []⟩, ⟨7, [], []⟩, ⟨8, [], []⟩, ⟨9, [], []⟩, ⟨10, [], []⟩, ⟨11, [], []⟩, ⟨12, [], []⟩, ⟨13, [], []⟩, ⟨14, [], []⟩, ⟨15, [], []⟩, ⟨16, [], []⟩, ⟨17, [], []⟩])) (.n (some ([⟨0, [], []⟩, ⟨1, [], []⟩, ⟨2, [], []⟩, ⟨3, [], []⟩, ⟨4, [], []⟩, ⟨5, [], []⟩, ⟨6, [], []⟩, ⟨7, [], []⟩, ⟨8, [], []⟩, ⟨9, [], []⟩, ⟨10, [], []⟩, ⟨11, [], []⟩])) .e
 .e)
 .e))
 .e)))) Tryz.cF646 .e
noncomputable def Tryz.cF389 : Tr CF := .n (some (mkF Tryz.f389 (.n none (.n (some ([⟨0, [], []⟩, ⟨1, [], []⟩, ⟨2, [], []⟩, ⟨3, [], []⟩, ⟨4, [], []⟩, ⟨5, [], []⟩, ⟨7, [], []⟩, ⟨8, [], []⟩, ⟨9, [], []⟩, ⟨6, [], []⟩, ⟨10, [], []⟩, ⟨11, [], []⟩, ⟨12, [], []⟩, ⟨13, [], []⟩])) .e
 (.n (some ([⟨0, [], []⟩, ⟨1, [], []⟩, ⟨2, [], []⟩, ⟨3, [], []⟩, ⟨4, [], []⟩, ⟨5, [], []⟩, ⟨6, [], []⟩, ⟨7, [], []⟩, ⟨8, [], []⟩, ⟨9, [], []⟩, ⟨10, [], []⟩, ⟨11, [], []⟩, ⟨12, [], []⟩, ⟨13, [], []⟩, ⟨14, [], []⟩, ⟨15, [], []⟩, ⟨16, [3, 5], []⟩, ⟨17, [], []⟩, ⟨18, [], []⟩])) .e
 .e))
 .e))) Tryz.cF645 .e
noncomputable def Tryz.cF388 : Tr CF := .n (some (mkF Tryz.f388 (.n none .e
 (.n none (.n (some ([⟨0, [], []⟩, ⟨1, [], []⟩, ⟨2, [], []⟩, ⟨3, [], []⟩, ⟨4, [], []⟩, ⟨5, [], []⟩, ⟨6, [], []⟩, ⟨7, [], []⟩, ⟨8, [], []⟩, ⟨9, [], []⟩, ⟨10, [], []⟩, ⟨11, [], []⟩, ⟨12, [], []⟩, ⟨13, [], []⟩, ⟨14, [], []⟩, ⟨15, [], []⟩, ⟨16, [], []⟩, ⟨17, [], []⟩, ⟨18, [], []⟩, ⟨19, [], []⟩, ⟨20, [], []⟩, ⟨21, [], []⟩, ⟨22, [], []⟩, ⟨23, [], []⟩, ⟨24, [], []⟩, ⟨25, [], []⟩, ⟨26, [], []⟩])) .e
 .e)
 .e)))) Tryz.cF644 .e
noncomputable def Tryz.cF387 : Tr CF := .n (some (mkF Tryz.f387 (.e))) Tryz.cF643 .e
noncomputable def Tryz.cF386 : Tr CF := .n (some (mkF Tryz.f386 (.n none .e
 (.n none .e
 (.n none (.n (some ([⟨0, [], []⟩, ⟨1, [], []⟩, ⟨2, [], []⟩, ⟨3, [], []⟩, ⟨4, [], []⟩, ⟨5, [], []⟩, ⟨6, [], []⟩, ⟨7, [], []⟩, ⟨8, [], []⟩, ⟨9, [], []⟩, ⟨10, [], []⟩, ⟨11, [], []⟩, ⟨12, [], []⟩, ⟨13, [], []⟩, ⟨14, [], []⟩, ⟨15, [], []⟩, ⟨16, [], []⟩, ⟨17, [], []⟩, ⟨18, [], []⟩, ⟨19, [], []⟩, ⟨20, [], []⟩, ⟨21, [], []⟩, ⟨22, [], []⟩, ⟨23, [], []⟩, ⟨24, [], []⟩])) .e
 .e)
 .e))))) Tryz.cF642 .e
noncomputable def Tryz.cF385 : Tr CF := .n (some (mkF Tryz.f385 (.e))) Tryz.cF641 .e
noncomputable def Tryz.cF384 : Tr CF := .n (some (mkF Tryz.f384 (.n none (.n (some ([⟨0, [], []⟩, ⟨1, [], []⟩, ⟨2, [], []⟩, ⟨3, [], []⟩, ⟨4, [], []⟩, ⟨5, [], []⟩, ⟨6, [], []⟩, ⟨7, [], []⟩, ⟨8, [], []⟩, ⟨9, [], []⟩, ⟨10, [], []⟩, ⟨11, [], []⟩, ⟨12, [], []⟩, ⟨13, [], []⟩, ⟨14, [], []⟩, ⟨15, [], []⟩, ⟨16, [], []⟩, ⟨17, [], []⟩, ⟨18, [], []⟩, ⟨19, [], []⟩, ⟨20, [], []⟩, ⟨21, [], []⟩, ⟨22, [], []⟩, ⟨23, [], []⟩, ⟨24, [], []⟩, ⟨25, [], []⟩, ⟨26, [], []⟩, ⟨27, [], []⟩, ⟨28, [], []⟩, ⟨29, [], []⟩, ⟨30, [], []⟩, ⟨31, [], []⟩, ⟨32, [], []⟩, ⟨33, [], []⟩, ⟨34, [], []⟩, ⟨35, [], []⟩, ⟨36, [], []⟩])) .e
 .e)
 .e))) Tryz.cF640 .e
noncomputable def Tryz.cF383 : Tr CF := .n (some (mkF Tryz.f383 (.e))) Tryz.cF639 .e
noncomputable def Tryz.cF382 : Tr CF := .n (some (mkF Tryz.f382 (.e))) Tryz.cF638 .e
noncomputable def Tryz.cF381 : Tr CF := .n (some (mkF Tryz.f381 (.e))) Tryz.cF637 .e
noncomputable def Tryz.cF380 : Tr CF := .n (some (mkF Tryz.f380 (.e))) Tryz.cF636 .e
noncomputable def Tryz.cF379 : Tr CF := .n (some (mkF Tryz.f379 (.n none (.n none (.n none (.n none (.n (some ([⟨0, [], []⟩, ⟨1, [], []⟩, ⟨2, [], []⟩, ⟨3, [], []⟩, ⟨4, [], []⟩, ⟨5, [], []⟩, ⟨6, [], []⟩, ⟨7, [], []⟩, ⟨8, [], []⟩, ⟨9, [], []⟩, ⟨10, [], []⟩, ⟨11, [], []⟩, ⟨12, [], []⟩, ⟨13, [], []⟩, ⟨14, [], []⟩, ⟨15, [], []⟩, ⟨16, [], []⟩])) .e
 .e)
 .e)
 .e)
 .e)
 .e))) Tryz.cF635 .e
noncomputable def Tryz.cF378 : Tr CF := .n (some (mkF Tryz.f378 (.e))) Tryz.cF634 .e
noncomputable def Tryz.cF377 : Tr CF := .n (some (mkF Tryz.f377 (.e))) Tryz.cF633 .e
noncomputable def Tryz.cF376 : Tr CF := .n (some (mkF Tryz.f376 (.n none (.n none (.n none (.n (some ([⟨0, [], []⟩, ⟨1, [], []⟩, ⟨2, [], []⟩, ⟨3, [], []⟩, ⟨4, [], []⟩, ⟨5, [], []⟩, ⟨6, [], []⟩, ⟨7, [], []⟩, ⟨8, [], []⟩, ⟨9, [], []⟩, ⟨10, [], []⟩, ⟨11, [], []⟩, ⟨12, [], []⟩])) .e
 .e)
 .e)
 .e)
 (.n none .e
 (.n (some ([⟨0, [], []⟩, ⟨1, [], []⟩, ⟨2, [], []⟩, ⟨3, [], []⟩, ⟨4, [], []⟩, ⟨5, [], []⟩, ⟨6, [], []⟩, ⟨7, [], []⟩, ⟨8, [], []⟩, ⟨9, [], []⟩, ⟨10, [], []⟩, ⟨11, [], []⟩, ⟨12, [], []⟩])) .e
 .e))))) Tryz.cF632 .e
noncomputable def Tryz.cF375 : Tr CF := .n (some (mkF Tryz.f375 (.n none .e
 (.n none .e
 (.n (some ([⟨0, [], []⟩, ⟨2, [], []⟩, ⟨4, [], []⟩, ⟨6, [], []⟩, ⟨8, [], []⟩, ⟨10, [], []⟩, ⟨12, [], []⟩, ⟨16, [], []⟩, ⟨1, [2, 4, 6, 8, 10, 12], []⟩, ⟨3, [4, 6, 8, 10, 12], []⟩, ⟨5, [6, 8, 10, 12], []⟩, ⟨7, [8, 10, 12], []⟩, ⟨9, [10, 12], []⟩, ⟨11, [12], []⟩, ⟨13, [], []⟩, ⟨14, [], []⟩, ⟨15, [], []⟩])) .e
 .e))))) Tryz.cF631 .e
noncomputable def Tryz.cF374 : Tr CF := .n (some (mkF Tryz.f374 (.e))) Tryz.cF630 .e
noncomputable def Tryz.cF373 : Tr CF := .n (some (mkF Tryz.f373 (.e))) Tryz.cF629 .e
noncomputable def Tryz.cF372 : Tr CF := .n (some (mkF Tryz.f372 (.n none (.n (some ([⟨0, [], []⟩, ⟨1, [], []⟩, ⟨2, [], []⟩, ⟨3, [], []⟩, ⟨4, [], []⟩, ⟨5, [], []⟩, ⟨6, [1], []⟩, ⟨7, [], []⟩, ⟨8, [], []⟩])) .e
 .e)
 .e))) Tryz.cF628 .e
noncomputable def Tryz.cF371 : Tr CF := .n (some (mkF Tryz.f371 (.e))) Tryz.cF627 .e
noncomputable def Tryz.cF370 : Tr CF := .n (some (mkF Tryz.f370 (.n none (.n (some ([⟨0, [], []⟩, ⟨1, [], []⟩, ⟨2, [], []⟩, ⟨3, [], []⟩, ⟨4, [], []⟩, ⟨5, [], []⟩, ⟨6, [], []⟩, ⟨7, [], []⟩, ⟨8, [], []⟩, ⟨9, [], []⟩, ⟨10, [], []⟩, ⟨11, [], []⟩, ⟨12, [], []⟩, ⟨13, [], []⟩, ⟨14, [], []⟩, ⟨15, [], []⟩, ⟨16, [], []⟩, ⟨17, [11, 14], []⟩, ⟨18, [], []⟩])) (.n (some ([⟨0, [], []⟩, ⟨1, [], []⟩, ⟨2, [], []⟩, ⟨3, [], []⟩, ⟨4, [], []⟩, ⟨5, [], []⟩, ⟨6, [], []⟩, ⟨7, [], []⟩, ⟨8, [], []⟩, ⟨9, [], []⟩, ⟨10, [], []⟩])) .e
 .e)
 .e)
 (.n none (.n (some ([⟨0, [], []⟩, ⟨1, [], []⟩, ⟨2, [], []⟩, ⟨3, [], []⟩, ⟨4, [], []⟩, ⟨5, [], []⟩, ⟨6, [], []⟩, ⟨7, [], []⟩, ⟨8, [], []⟩, ⟨10, [], []⟩, ⟨9, [4], []⟩, ⟨11, [], []⟩, ⟨12, [], []⟩, ⟨13, [], []⟩, ⟨14, [], []⟩, ⟨15, [], []⟩, ⟨16, [], []⟩])) (.n (some ([⟨0, [], []⟩, ⟨1, [], []⟩, ⟨2, [], []⟩, ⟨3, [], []⟩, ⟨4, [], []⟩, ⟨5, [], []⟩, ⟨6, [], []⟩, ⟨7, [], []⟩, ⟨8, [], []⟩, ⟨9, [], []⟩, ⟨10, [], []⟩, ⟨11, [], []⟩, ⟨12, [], []⟩, ⟨13, [], []⟩, ⟨14, [], []⟩, ⟨15, [], []⟩])) .e
 .e)
 .e)
 (.n (some ([⟨0, [], []⟩, ⟨1, [], []⟩, ⟨2, [], []⟩, ⟨3, [], []⟩, ⟨4, [], []⟩, ⟨5, [], []⟩, ⟨6, [], []⟩, ⟨7, [], []⟩, ⟨8, [], []⟩, ⟨10, [], []⟩, ⟨9, [4], []⟩, ⟨11, [], []⟩, ⟨12, [], []⟩, ⟨13, [], []⟩, ⟨14, [], []⟩, ⟨15, [], []⟩, ⟨16, [], []⟩])) .e
 .e))))) Tryz.cF626 .e
noncomputable def Tryz.cF369 : Tr CF := .n (some (mkF Tryz.f369 (.n none (.n (some ([⟨0, [], []⟩, ⟨1, [], []⟩, ⟨2, [], []⟩, ⟨3, [], []⟩, ⟨4, [], []⟩, ⟨5, [], []⟩, ⟨6, [], []⟩, ⟨7, [], []⟩, ⟨8, [], []⟩, ⟨9, [], []⟩, ⟨10, [], []⟩, ⟨11, [], []⟩, ⟨12, [], []⟩, ⟨13, [], []⟩, ⟨14, [], []⟩, ⟨15, [], []⟩, ⟨16, [], []⟩, ⟨17, [], []⟩, ⟨18, [], []⟩, ⟨19, [], []⟩])) (.n (some ([⟨0, [], []⟩, ⟨1, [], []⟩, ⟨2, [], []⟩, ⟨3, [], []⟩, ⟨4, [], []⟩, ⟨5, [], []⟩, ⟨6, [], []⟩, ⟨7, [], []⟩, ⟨8, [], []⟩, ⟨9, [], []⟩, ⟨10, [], []⟩, ⟨11, [], []⟩, ⟨12, [], []⟩, ⟨13, [], []⟩, ⟨14, [], []⟩, ⟨15, [], []⟩, ⟨16, [], []⟩, ⟨17, [], []⟩])) .e
 .e)
 .e)
 .e))) Tryz.cF625 .e
noncomputable def Tryz.cF368 : Tr CF := .n (some (mkF Tryz.f368 (.e))) Tryz.cF624 .e
noncomputable def Tryz.cF367 : Tr CF := .n (some (mkF Tryz.f367 (.e))) Tryz.cF623 .e
noncomputable def Tryz.cF366 : Tr CF := .n (some (mkF Tryz.f366 (.e))) Tryz.cF622 .e
noncomputable def Tryz.cF365 : Tr CF := .n (some (mkF Tryz.f365 (.e))) Tryz.cF621 .e
noncomputable def Tryz.cF364 : Tr CF := .n (some (mkF Tryz.f364 (.e))) Tryz.cF620 .e
noncomputable def Tryz.cF363 : Tr CF := .n (some (mkF Tryz.f363 (.n none (.n (some ([⟨0, [], []⟩, ⟨1, [], []⟩, ⟨2, [], []⟩, ⟨3, [], []⟩, ⟨5, [], []⟩, ⟨6, [], []⟩, ⟨7, [], []⟩, ⟨8, [], []⟩, ⟨10, [], []⟩, ⟨11, [], []⟩, ⟨12, [], []⟩, ⟨13, [], []⟩, ⟨4, [6, 8, 11, 13], []⟩, ⟨9, [11, 13], []⟩, ⟨14, [], []⟩, ⟨15, [], []⟩, ⟨16, [], []⟩, ⟨17, [], []⟩])) .e
 .e)
 .e))) Tryz.cF619 .e
noncomputable def Tryz.cF362 : Tr CF := .n (some (mkF Tryz.f362 (.e))) Tryz.cF618 .e
noncomputable def Tryz.cF361 : Tr CF := .n (some (mkF Tryz.f361 (.e))) Tryz.cF617 .e
noncomputable def Tryz.cF360 : Tr CF := .n (some (mkF Tryz.f360 (.e))) Tryz.cF616 .e
noncomputable def Tryz.cF359 : Tr CF := .n (some (mkF Tryz.f359 (.n none (.n none (.n none (.n (some ([⟨0, [], []⟩, ⟨1, [], []⟩, ⟨2, [], []⟩, ⟨3, [], []⟩, ⟨4, [], []⟩, ⟨5, [], []⟩, ⟨6, [], []⟩, ⟨7, [], []⟩, ⟨8, [], []⟩, ⟨9, [], []⟩, ⟨10, [], []⟩, ⟨11, [], []⟩, ⟨12, [], []⟩, ⟨13, [], []⟩, ⟨14, [], []⟩])) .e
 (.n (some ([⟨0, [], []⟩, ⟨1, [], []⟩, ⟨2, [], []⟩, ⟨3, [], []⟩, ⟨4, [], []⟩, ⟨5, [], []⟩, ⟨6, [], []⟩, ⟨7, [], []⟩, ⟨8, [], []⟩, ⟨9, [], []⟩, ⟨10, [], []⟩, ⟨11, [], []⟩, ⟨12, [], []⟩, ⟨13, [], []⟩, ⟨14, [], []⟩])) .e
 .e))
 .e)
 (.n none (.n (some ([⟨0, [], []⟩, ⟨1, [], []⟩, ⟨2, [], []⟩, ⟨3, [], []⟩, ⟨4, [], []⟩, ⟨5, [], []⟩, ⟨6, [], []⟩, ⟨7, [], []⟩, ⟨8, [], []⟩, ⟨9, [], []⟩, ⟨10, [], []⟩, ⟨11, [], []⟩, ⟨12, [], []⟩, ⟨13, [], []⟩, ⟨14, [], []⟩])) (.n (some ([⟨0, [], []⟩, ⟨1, [], []⟩, ⟨2, [], []⟩, ⟨3, [], []⟩, ⟨4, [], []⟩, ⟨5, [], []⟩, ⟨6, [], []⟩, ⟨7, [], []⟩, ⟨8, [], []⟩, ⟨9, [], []⟩, ⟨10, [], []⟩, ⟨11, [], []⟩, ⟨12, [], []⟩, ⟨13, [], []⟩, ⟨14, [], []⟩])) .e
 .e)
 .e)
 .e))
 (.n none (.n none (.n (some ([⟨0, [], []⟩, ⟨1, [], []⟩, ⟨2, [], []⟩, ⟨3, [], []⟩, ⟨4, [], []⟩, ⟨5, [], []⟩, ⟨6, [], []⟩, ⟨7, [], []⟩, ⟨8, [], []⟩, ⟨9, [], []⟩, ⟨10, [], []⟩, ⟨11, [], []⟩, ⟨12, [], []⟩, ⟨13, [], []⟩, ⟨14, [], []⟩])) .e
 .e)
 .e)
 (.n none (.n (some ([⟨0, [], []⟩, ⟨1, [], []⟩, ⟨2, [], []⟩, ⟨3, [], []⟩, ⟨4, [], []⟩, ⟨5, [], []⟩, ⟨6, [], []⟩, ⟨7, [], []⟩, ⟨8, [], []⟩, ⟨9, [], []⟩, ⟨10, [], []⟩, ⟨11, [], []⟩, ⟨12, [], []⟩, ⟨13, [], []⟩, ⟨14, [], []⟩])) (.n (some ([⟨0, [], []⟩, ⟨1, [], []⟩, ⟨2, [], []⟩, ⟨3, [], []⟩, ⟨4, [], []⟩, ⟨5, [], []⟩, ⟨6, [], []⟩, ⟨7, [], []⟩, ⟨8, [], []⟩, ⟨9, [], []⟩, ⟨10, [], []⟩, ⟨11, [], []⟩, ⟨12, [], []⟩, ⟨13, [], []⟩, ⟨14, [], []⟩])) .e
 .e)
 .e)
 .e))))) Tryz.cF615 .e
noncomputable def Tryz.cF358 : Tr CF := .n (some (mkF Tryz.f358 (.e))) Tryz.cF614 .e
noncomputable def Tryz.cF357 : Tr CF := .n (some (mkF Tryz.f357 (.e))) Tryz.cF613 .e
noncomputable def Tryz.cF356 : Tr CF := .n none Tryz.cF612 .e
noncomputable def Tryz.cF355 : Tr CF := .n (some (mkF Tryz.f355 (.e))) Tryz.cF611 .e
noncomputable def Tryz.cF354 : Tr CF := .n (some (mkF Tryz.f354 (.e))) Tryz.cF610 .e
noncomputable def Tryz.cF353 : Tr CF := .n (some (mkF Tryz.f353 (.e))) Tryz.cF609 .e
noncomputable def Tryz.cF352 : Tr CF := .n (some (mkF Tryz.f352 (.e))) Tryz.cF608 .e
noncomputable def Tryz.cF351 : Tr CF := .n (some (mkF Tryz.f351 (.e))) Tryz.cF607 .e
noncomputable def Tryz.cF350 : Tr CF := .n (some (mkF Tryz.f350 (.e))) Tryz.cF606 .e
noncomputable def Tryz.cF349 : Tr CF := .n (some (mkF Tryz.f349 (.e))) Tryz.cF605 .e
noncomputable def Tryz.cF348 : Tr CF := .n (some (mkF Tryz.f348 (.e))) Tryz.cF604 .e
noncomputable def Tryz.cF347 : Tr CF := .n (some (mkF Tryz.f347 (.e))) Tryz.cF603 .e
noncomputable def Tryz.cF346 : Tr CF := .n (some (mkF Tryz.f346 (.e))) Tryz.cF602 .e
noncomputable def Tryz.cF345 : Tr CF := .n (some (mkF Tryz.f345 (.e))) Tryz.cF601 .e
noncomputable def Tryz.cF344 : Tr CF := .n (some (mkF Tryz.f344 (.e))) Tryz.cF600 .e
noncomputable def Tryz.cF343 : Tr CF := .n (some (mkF Tryz.f343 (.e))) Tryz.cF599 .e
noncomputable def Tryz.cF342 : Tr CF := .n (some (mkF Tryz.f342 (.n none (.n (some ([⟨0, [], []⟩, ⟨1, [], []⟩, ⟨2, [], []⟩, ⟨5, [], []⟩, ⟨6, [], []⟩, ⟨3, [1, 6], []⟩, ⟨4, [], []⟩, ⟨7, [], []⟩, ⟨8, [], []⟩, ⟨9, [], []⟩])) .e
 .e)
 .e))) Tryz.cF598 .e
noncomputable def Tryz.cF341 : Tr CF := .n (some (mkF Tryz.f341 (.e))) Tryz.cF597 .e
noncomputable def Tryz.cF340 : Tr CF := .n (some (mkF Tryz.f340 (.n none .e
 (.n none (.n (some ([⟨0, [], []⟩, ⟨1, [], []⟩, ⟨2, [], []⟩, ⟨3, [], []⟩, ⟨4, [], []⟩, ⟨5, [], []⟩, ⟨6, [], []⟩, ⟨7, [], []⟩, ⟨8, [], []⟩, ⟨9, [], []⟩, ⟨10, [], []⟩, ⟨11, [], []⟩, ⟨12, [], []⟩])) .e
 .e)
 (.n (some ([⟨0, [], []⟩, ⟨1, [], []⟩, ⟨2, [], []⟩, ⟨3, [], []⟩, ⟨4, [], []⟩, ⟨5, [], []⟩, ⟨6, [], []⟩, ⟨7, [], []⟩, ⟨8, [], []⟩, ⟨9, [], []⟩, ⟨10, [], []⟩, ⟨11, [], []⟩, ⟨12, [], []⟩, ⟨13, [], []⟩, ⟨14, [], []⟩, ⟨15, [], []⟩, ⟨16, [], []⟩, ⟨17, [], []⟩, ⟨18, [], []⟩, ⟨19, [], []⟩, ⟨20, [], []⟩, ⟨21, [], []⟩, ⟨22, [], []⟩, ⟨23, [], []⟩, ⟨24, [], []⟩, ⟨25, [], []⟩, ⟨26, [], []⟩, ⟨27, [], []⟩, ⟨28, [], []⟩, ⟨29, [], []⟩, ⟨30, [], []⟩, ⟨31, [], []⟩])) .e
 .e))))) Tryz.cF596 .e
noncomputable def Tryz.cF339 : Tr CF := .n (some (mkF Tryz.f339 (.e))) Tryz.cF595 .e
noncomputable def Tryz.cF338 : Tr CF := .n (some (mkF Tryz.f338 (.e))) Tryz.cF594 .e
noncomputable def Tryz.cF337 : Tr CF := .n (some (mkF Tryz.f337 (.e))) Tryz.cF593 .e
noncomputable def Tryz.cF336 : Tr CF := .n (some (mkF Tryz.f336 (.n none (.n none (.n (some ([⟨0, [], []⟩, ⟨1, [], []⟩, ⟨3, [], []⟩, ⟨4, [], []⟩, ⟨6, [], []⟩, ⟨7, [], []⟩, ⟨2, [4, 7], []⟩, ⟨5, [7], []⟩, ⟨8, [], []⟩, ⟨9, [], []⟩, ⟨10, [], []⟩, ⟨11, [], []⟩, ⟨12, [], []⟩, ⟨13, [], []⟩, ⟨14, [], []⟩])) .e
 .e)
 .e)
 .e))) Tryz.cF592 .e
noncomputable def Tryz.cF335 : Tr CF := .n (some (mkF Tryz.f335 (.e))) Tryz.cF591 .e
noncomputable def Tryz.cF334 : Tr CF := .n (some (mkF Tryz.f334 (.e))) Tryz.cF590 .e
noncomputable def Tryz.cF333 : Tr CF := .n (some (mkF Tryz.f333 (.e))) Tryz.cF589 .e
noncomputable def Tryz.cF332 : Tr CF := .n (some (mkF Tryz.f332 (.e))) Tryz.cF588 .e
noncomputable def Tryz.cF331 : Tr CF := .n (some (mkF Tryz.f331 (.e))) Tryz.cF587 .e
noncomputable def Tryz.cF330 : Tr CF := .n (some (mkF Tryz.f330 (.e))) Tryz.cF586 .e
noncomputable def Tryz.cF329 : Tr CF := .n (some (mkF Tryz.f329 (.e))) Tryz.cF585 .e
noncomputable def Tryz.cF328 : Tr CF := .n (some (mkF Tryz.f328 (.e))) Tryz.cF584 .e
noncomputable def Tryz.cF327 : Tr CF := .n (some (mkF Tryz.f327 (.n none (.n none (.n none (.n none .e
 (.n (some ([⟨0, [], []⟩, ⟨1, [], []⟩, ⟨2, [], []⟩, ⟨3, [], []⟩, ⟨4, [], []⟩, ⟨5, [], []⟩, ⟨6, [], []⟩, ⟨7, [], []⟩, ⟨8, [], []⟩, ⟨9, [], []⟩, ⟨10, [], []⟩, ⟨11, [], []⟩, ⟨12, [], []⟩, ⟨13, [], []⟩, ⟨14, [], []⟩, ⟨15, [], []⟩])) .e
 .e))
 (.n none (.n (some ([⟨0, [], []⟩, ⟨1, [], []⟩, ⟨2, [], []⟩, ⟨3, [], []⟩, ⟨4, [], []⟩, ⟨5, [], []⟩, ⟨6, [3], []⟩, ⟨7, [], []⟩, ⟨8, [], []⟩, ⟨9, [], []⟩, ⟨10, [], []⟩, ⟨11, [], []⟩])) .e
 .e)
 .e))
 .e)
 .e))) Tryz.cF583 .e
noncomputable def Tryz.cF326 : Tr CF := .n (some (mkF Tryz.f326 (.e))) Tryz.cF582 .e
noncomputable def Tryz.cF325 : Tr CF := .n (some (mkF Tryz.f325 (.n none .e
 (.n none (.n none .e
 (.n (some ([⟨0, [], []⟩, ⟨1, [], []⟩, ⟨2, [], []⟩, ⟨3, [], []⟩, ⟨4, [], []⟩, ⟨5, [], []⟩, ⟨6, [], []⟩, ⟨7, [], []⟩, ⟨8, [], []⟩])) .e
 .e))
 .e)))) Tryz.cF581 .e
noncomputable def Tryz.cF324 : Tr CF := .n (some (mkF Tryz.f324 (.e))) Tryz.cF580 .e
noncomputable def Tryz.cF323 : Tr CF := .n (some (mkF Tryz.f323 (.e))) Tryz.cF579 .e
noncomputable def Tryz.cF322 : Tr CF := .n (some (mkF Tryz.f322 (.n none (.n none (.n none (.n none (.n (some ([⟨0, [], []⟩, ⟨2, [], []⟩, ⟨3, [], []⟩, ⟨1, [3], []⟩, ⟨4, [], []⟩, ⟨5, [], []⟩])) .e
 .e)
 .e)
 .e)
 .e)
 .e))) Tryz.cF578 .e
noncomputable def Tryz.cF321 : Tr CF := .n (some (mkF Tryz.f321 (.e))) Tryz.cF577 .e
noncomputable def Tryz.cF320 : Tr CF := .n (some (mkF Tryz.f320 (.e))) Tryz.cF576 .e
noncomputable def Tryz.cF319 : Tr CF := .n (some (mkF Tryz.f319 (.e))) Tryz.cF575 .e
noncomputable def Tryz.cF318 : Tr CF := .n (some (mkF Tryz.f318 (.n none (.n none .e
 (.n none (.n none (.n (some ([⟨0, [], []⟩, ⟨1, [], []⟩, ⟨2, [], []⟩, ⟨3, [], []⟩, ⟨4, [], []⟩, ⟨5, [], []⟩, ⟨6, [], []⟩, ⟨7, [], []⟩, ⟨8, [], []⟩, ⟨9, [], []⟩, ⟨10, [], []⟩, ⟨11, [], []⟩, ⟨12, [], []⟩, ⟨13, [], []⟩, ⟨14, [], []⟩, ⟨15, [], []⟩, ⟨16, [], []⟩])) .e
 .e)
 .e)
 .e))
 .e))) Tryz.cF574 .e
noncomputable def Tryz.cF317 : Tr CF := .n (some (mkF Tryz.f317 (.n none (.n (some ([⟨0, [], []⟩, ⟨1, [], []⟩, ⟨2, [], []⟩, ⟨3, [0], []⟩, ⟨4, [], []⟩, ⟨5, [], []⟩])) .e
 .e)
 .e))) Tryz.cF573 .e
noncomputable def Tryz.cF316 : Tr CF := .n (some (mkF Tryz.f316 (.e))) Tryz.cF572 .e
noncomputable def Tryz.cF315 : Tr CF := .n (some (mkF Tryz.f315 (.e))) Tryz.cF571 .e
noncomputable def Tryz.cF314 : Tr CF := .n (some (mkF Tryz.f314 (.e))) Tryz.cF570 .e
noncomputable def Tryz.cF313 : Tr CF := .n (some (mkF Tryz.f313 (.e))) Tryz.cF569 .e
noncomputable def Tryz.cF312 : Tr CF := .n (some (mkF Tryz.f312 (.e))) Tryz.cF568 .e
noncomputable def Tryz.cF311 : Tr CF := .n (some (mkF Tryz.f311 (.e))) Tryz.cF567 .e
noncomputable def Tryz.cF310 : Tr CF := .n (some (mkF Tryz.f310 (.n none (.n none (.n none (.n none (.n (some ([⟨0, [], []⟩, ⟨1, [], []⟩, ⟨2, [], []⟩, ⟨3, [], []⟩, ⟨4, [], []⟩, ⟨5, [], []⟩, ⟨6, [], []⟩, ⟨7, [], []⟩, ⟨8, [], []⟩, ⟨9, [], []⟩, ⟨10, [], []⟩, ⟨11, [], []⟩, ⟨12, [], []⟩, ⟨13, [], []⟩, ⟨14, [], []⟩, ⟨15, [], []⟩, ⟨16, [], []⟩, ⟨17, [], []⟩, ⟨18, [], []⟩, ⟨19, [], []⟩, ⟨20, [], []⟩, ⟨21, [], []⟩, ⟨22, [], []⟩, ⟨23, [], []⟩, ⟨24, [], []⟩, ⟨25, [], []⟩])) .e
 .e)
 .e)
 .e)
 .e)
 (.n none (.n none (.n none (.n (some ([⟨0, [], []⟩, ⟨1, [], []⟩, ⟨2, [], []⟩, ⟨3, [], []⟩, ⟨4, [], []⟩, ⟨5, [], []⟩, ⟨6, [], []⟩, ⟨7, [], []⟩, ⟨8, [], []⟩, ⟨9, [], []⟩, ⟨10, [], []⟩, ⟨11, [], []⟩, ⟨12, [], []⟩, ⟨13, [], []⟩, ⟨14, [], []⟩, ⟨15, [], []⟩, ⟨16, [], []⟩, ⟨17, [], []⟩, ⟨18, [], []⟩, ⟨19, [], []⟩, ⟨20, [], []⟩, ⟨21, [], []⟩, ⟨22, [], []⟩, ⟨23, [], []⟩, ⟨24, [], []⟩, ⟨25, [], []⟩, ⟨26, [], []⟩, ⟨27, [], []⟩, ⟨28, [], []⟩, ⟨29, [], []⟩, ⟨30, [], []⟩, ⟨31, [], []⟩, ⟨32, [], []⟩, ⟨33, [], []⟩, ⟨34, [], []⟩, ⟨35, [], []⟩, ⟨36, [2, 8, 12, 14, 19], []⟩, ⟨37, [], []⟩, ⟨38, [], []⟩, ⟨39, [], []⟩])) .e
 .e)
 .e)
 .e)
 (.n (some ([⟨0, [], []⟩, ⟨1, [], []⟩, ⟨2, [], []⟩, ⟨3, [], []⟩, ⟨4, [], []⟩, ⟨5, [], []⟩, ⟨6, [], []⟩, ⟨7, [], []⟩, ⟨8, [], []⟩, ⟨9, [], []⟩, ⟨10, [], []⟩, ⟨11, [], []⟩, ⟨12, [], []⟩, ⟨13, [], []⟩, ⟨14, [], []⟩, ⟨15, [], []⟩, ⟨16, [], []⟩, ⟨17, [], []⟩, ⟨18, [], []⟩, ⟨19, [], []⟩])) .e
 (.n (some ([⟨0, [], []⟩, ⟨1, [], []⟩, ⟨2, [], []⟩, ⟨3, [], []⟩, ⟨4, [], []⟩, ⟨5, [], []⟩, ⟨6, [], []⟩, ⟨7, [], []⟩])) .e
 .e)))))) Tryz.cF566 .e
noncomputable def Tryz.cF309 : Tr CF := .n (some (mkF Tryz.f309 (.e))) Tryz.cF565 .e
noncomputable def Tryz.cF308 : Tr CF := .n (some (mkF Tryz.f308 (.n (some ([⟨0, [], []⟩, ⟨1, [], []⟩, ⟨2, [], []⟩, ⟨3, [], []⟩, ⟨4, [], []⟩, ⟨5, [], []⟩, ⟨6, [], []⟩, ⟨7, [], []⟩, ⟨8, [], []⟩, ⟨9, [], []⟩])) .e
 .e))) Tryz.cF564 .e
noncomputable def Tryz.cF307 : Tr CF := .n (some (mkF Tryz.f307 (.n none (.n (some ([⟨0, [], []⟩, ⟨1, [], []⟩, ⟨2, [], []⟩, ⟨3, [], []⟩, ⟨4, [], []⟩, ⟨6, [], []⟩, ⟨7, [], []⟩, ⟨8, [], []⟩, ⟨5, [], []⟩, ⟨9, [], []⟩, ⟨10, [], []⟩, ⟨11, [], []⟩, ⟨12, [], []⟩])) .e
 (.n (some ([⟨0, [], []⟩, ⟨1, [], []⟩, ⟨2, [], []⟩, ⟨3, [], []⟩, ⟨4, [], []⟩, ⟨5, [], []⟩, ⟨6, [], []⟩, ⟨7, [], []⟩, ⟨8, [], []⟩, ⟨9, [], []⟩, ⟨10, [], []⟩, ⟨11, [], []⟩, ⟨12, [], []⟩, ⟨13, [], []⟩, ⟨14, [], []⟩, ⟨15, [], []⟩, ⟨16, [3, 5], []⟩, ⟨17, [], []⟩, ⟨18, [], []⟩])) .e
 .e))
 .e))) Tryz.cF563 .e
noncomputable def Tryz.cF306 : Tr CF := .n (some (mkF Tryz.f306 (.n none (.n none (.n none .e
 (.n (some ([⟨0, [], []⟩, ⟨1, [], []⟩, ⟨2, [], []⟩, ⟨3, [], []⟩, ⟨4, [], []⟩, ⟨5, [], []⟩, ⟨6, [], []⟩, ⟨7, [], []⟩, ⟨8, [], []⟩, ⟨9, [], []⟩])) .e
 .e))
 .e)
 (.n none .e
 (.n (some ([⟨0, [], []⟩, ⟨1, [], []⟩, ⟨2, [], []⟩, ⟨3, [], []⟩, ⟨4, [], []⟩, ⟨5, [], []⟩, ⟨6, [], []⟩, ⟨7, [], []⟩, ⟨8, [], []⟩, ⟨9, [], []⟩])) .e
 .e))))) Tryz.cF562 .e
noncomputable def Tryz.cF305 : Tr CF := .n (some (mkF Tryz.f305 (.e))) Tryz.cF561 .e
noncomputable def Tryz.cF304 : Tr CF := .n (some (mkF Tryz.f304 (.e))) Tryz.cF560 .e
noncomputable def Tryz.cF303 : Tr CF := .n (some (mkF Tryz.f303 (.e))) Tryz.cF559 .e
noncomputable def Tryz.cF302 : Tr CF := .n (some (mkF Tryz.f302 (.n (some ([⟨0, [], []⟩, ⟨1, [], []⟩, ⟨2, [], []⟩, ⟨3, [], []⟩, ⟨4, [], []⟩, ⟨5, [], []⟩, ⟨6, [], []⟩, ⟨7, [], []⟩, ⟨9, [], []⟩, ⟨10, [], []⟩, ⟨11, [], []⟩, ⟨12, [], []⟩, ⟨13, [], []⟩, ⟨8, [12, 13], []⟩, ⟨14, [], []⟩, ⟨15, [], []⟩])) .e
 .e))) Tryz.cF558 .e
noncomputable def Tryz.cF301 : Tr CF := .n none Tryz.cF557 .e
noncomputable def Tryz.cF300 : Tr CF := .n (some (mkF Tryz.f300 (.n none .e
 (.n none .e
 (.n none .e
 (.n (some ([⟨0, [], []⟩, ⟨1, [], []⟩, ⟨2, [], []⟩, ⟨3, [], []⟩, ⟨4, [], []⟩, ⟨5, [], []⟩])) .e
 .e)))))) Tryz.cF556 .e
noncomputable def Tryz.cF299 : Tr CF := .n (some (mkF Tryz.f299 (.n (some ([⟨0, [], []⟩, ⟨1, [], []⟩, ⟨2, [], []⟩, ⟨3, [], []⟩, ⟨4, [], []⟩, ⟨5, [], []⟩, ⟨6, [], []⟩, ⟨7, [], []⟩, ⟨8, [], []⟩, ⟨9, [], []⟩, ⟨10, [], []⟩, ⟨11, [], []⟩, ⟨12, [], []⟩, ⟨13, [], []⟩, ⟨14, [], []⟩])) .e
 .e))) Tryz.cF555 .e
noncomputable def Tryz.cF298 : Tr CF := .n (some (mkF Tryz.f298 (.e))) Tryz.cF554 .e
noncomputable def Tryz.cF297 : Tr CF := .n (some (mkF Tryz.f297 (.e))) Tryz.cF553 .e
noncomputable def Tryz.cF296 : Tr CF := .n (some (mkF Tryz.f296 (.e))) Tryz.cF552 .e
noncomputable def Tryz.cF295 : Tr CF := .n (some (mkF Tryz.f295 (.e))) Tryz.cF551 .e
noncomputable def Tryz.cF294 : Tr CF := .n (some (mkF Tryz.f294 (.n none .e
 (.n none (.n none (.n (some ([⟨0, [], []⟩, ⟨1, [], []⟩, ⟨2, [], []⟩, ⟨3, [], []⟩, ⟨4, [], []⟩, ⟨5, [], []⟩, ⟨6, [], []⟩])) .e
 .e)
 .e)
 (.n (some ([⟨0, [], []⟩, ⟨1, [], []⟩, ⟨2, [], []⟩, ⟨3, [], []⟩, ⟨4, [], []⟩, ⟨5, [], []⟩, ⟨6, [], []⟩])) .e
 .e))))) Tryz.cF550 .e
noncomputable def Tryz.cF293 : Tr CF := .n (some (mkF Tryz.f293 (.n none (.n (some ([⟨0, [], []⟩, ⟨1, [], []⟩, ⟨2, [], []⟩, ⟨4, [], []⟩, ⟨5, [], []⟩, ⟨6, [], []⟩, ⟨3, [4, 6], []⟩, ⟨7, [], []⟩, ⟨8, [], []⟩, ⟨9, [], []⟩])) .e
 .e)
 .e))) Tryz.cF549 .e
noncomputable def Tryz.cF292 : Tr CF := .n (some (mkF Tryz.f292 (.e))) Tryz.cF548 .e
noncomputable def Tryz.cF291 : Tr CF := .n (some (mkF Tryz.f291 (.n none (.n none (.n none (.n (some ([⟨0, [], []⟩, ⟨1, [], []⟩, ⟨2, [], []⟩, ⟨3, [], []⟩, ⟨4, [], []⟩, ⟨5, [], []⟩, ⟨6, [], []⟩, ⟨7, [], []⟩, ⟨8, [], []⟩, ⟨9, [], []⟩, ⟨10, [], []⟩, ⟨11, [2], []⟩, ⟨12, [], []⟩, ⟨13, [], []⟩])) .e
 .e)
 .e)
 .e)
 (.n (some ([⟨0, [], []⟩, ⟨1, [], []⟩, ⟨2, [], []⟩, ⟨3, [], []⟩, ⟨4, [], []⟩, ⟨5, [], []⟩, ⟨6, [], []⟩, ⟨7, [], []⟩, ⟨8, [], []⟩, ⟨9, [2], []⟩, ⟨10, [], []⟩, ⟨11, [], []⟩])) .e
 .e)))) Tryz.cF547 .e
noncomputable def Tryz.cF290 : Tr CF := .n (some (mkF Tryz.f290 (.e))) Tryz.cF546 .e
noncomputable def Tryz.cF289 : Tr CF := .n (some (mkF Tryz.f289 (.e))) Tryz.cF545 .e
noncomputable def Tryz.cF288 : Tr CF := .n (some (mkF Tryz.f288 (.e))) Tryz.cF544 .e
noncomputable def Tryz.cF287 : Tr CF := .n (some (mkF Tryz.f287 (.e))) Tryz.cF543 .e
noncomputable def Tryz.cF286 : Tr CF := .n (some (mkF Tryz.f286 (.e))) Tryz.cF542 .e
noncomputable def Tryz.cF285 : Tr CF := .n (some (mkF Tryz.f285 (.e))) Tryz.cF541 .e
noncomputable def Tryz.cF284 : Tr CF := .n (some (mkF Tryz.f284 (.e))) Tryz.cF540 .e
noncomputable def Tryz.cF283 : Tr CF := .n (some (mkF Tryz.f283 (.e))) Tryz.cF539 .e
noncomputable def Tryz.cF282 : Tr CF := .n (some (mkF Tryz.f282 (.n none .e
 (.n none (.n none (.n none .e
 (.n (some ([⟨0, [], []⟩, ⟨1, [], []⟩, ⟨2, [], []⟩, ⟨3, [], []⟩, ⟨4, [], []⟩, ⟨5, [], []⟩, ⟨6, [], []⟩, ⟨7, [], []⟩, ⟨8, [], []⟩])) .e
 .e))
 .e)
 .e)))) Tryz.cF538 .e
noncomputable def Tryz.cF281 : Tr CF := .n (some (mkF Tryz.f281 (.n none .e
 (.n none .e
 (.n (some ([⟨0, [], []⟩, ⟨1, [], []⟩, ⟨2, [], []⟩, ⟨3, [], []⟩, ⟨4, [], []⟩, ⟨5, [], []⟩, ⟨6, [], []⟩])) .e
 .e))))) Tryz.cF537 .e
noncomputable def Tryz.cF280 : Tr CF := .n (some (mkF Tryz.f280 (.e))) Tryz.cF536 .e
noncomputable def Tryz.cF279 : Tr CF := .n (some (mkF Tryz.f279 (.n none (.n none .e
 (.n none .e
 (.n none (.n (some ([⟨0, [], []⟩, ⟨1, [], []⟩, ⟨2, [], []⟩, ⟨3, [], []⟩, ⟨4, [], []⟩, ⟨5, [], []⟩, ⟨6, [], []⟩, ⟨7, [], []⟩, ⟨8, [], []⟩, ⟨9, [], []⟩, ⟨10, [], []⟩, ⟨11, [], []⟩, ⟨12, [], []⟩, ⟨13, [], []⟩, ⟨14, [], []⟩, ⟨15, [], []⟩, ⟨16, [], []⟩, ⟨17, [], []⟩, ⟨18, [], []⟩, ⟨19, [], []⟩, ⟨20, [], []⟩, ⟨21, [], []⟩, ⟨22, [], []⟩, ⟨23, [], []⟩])) .e
 .e)
 .e)))
 (.n none (.n none .e
 (.n none (.n (some ([⟨0, [], []⟩, ⟨1, [], []⟩, ⟨2, [], []⟩, ⟨3, [], []⟩, ⟨4, [], []⟩, ⟨5, [], []⟩, ⟨6, [], []⟩, ⟨7, [], []⟩, ⟨8, [], []⟩, ⟨9, [], []⟩])) .e
 .e)
 .e))
 (.n none (.n none (.n (some ([⟨0, [], []⟩, ⟨1, [], []⟩, ⟨2, [], []⟩, ⟨3, [], []⟩, ⟨4, [], []⟩, ⟨5, [], []⟩, ⟨6, [], []⟩, ⟨7, [], []⟩, ⟨8, [], []⟩, ⟨9, [], []⟩])) .e
 .e)
 (.n (some ([⟨0, [], []⟩, ⟨1, [], []⟩, ⟨2, [], []⟩, ⟨3, [], []⟩, ⟨4, [], []⟩, ⟨5, [], []⟩, ⟨6, [], []⟩, ⟨7, [], []⟩, ⟨8, [], []⟩, ⟨9, [], []⟩, ⟨10, [], []⟩, ⟨11, [], []⟩, ⟨12, [], []⟩, ⟨13, [], []⟩, ⟨14, [], []⟩, ⟨15, [], []⟩, ⟨16, [], []⟩, ⟨17, [], []⟩, ⟨18, [], []⟩, ⟨19, [], []⟩])) .e
 .e))
 .e))))) Tryz.cF535 .e
noncomputable def Tryz.cF278 : Tr CF := .n (some (mkF Tryz.f278 (.e))) Tryz.cF534 .e
noncomputable def Tryz.cF277 : Tr CF := .n (some (mkF Tryz.f277 (.e))) Tryz.cF533 .e
noncomputable def Tryz.cF276 : Tr CF := .n (some (mkF Tryz.f276 (.e))) Tryz.cF532 .e
noncomputable def Tryz.cF275 : Tr CF := .n (some (mkF Tryz.f275 (.e))) Tryz.cF531 .e
noncomputable def Tryz.cF274 : Tr CF := .n (some (mkF Tryz.f274 (.e))) Tryz.cF530 .e
noncomputable def Tryz.cF273 : Tr CF := .n (some (mkF Tryz.f273 (.e))) Tryz.cF529 .e
noncomputable def Tryz.cF272 : Tr CF := .n (some (mkF Tryz.f272 (.e))) Tryz.cF528 .e
noncomputable def Tryz.cF271 : Tr CF := .n (some (mkF Tryz.f271 (.e))) Tryz.cF527 .e
noncomputable def Tryz.cF270 : Tr CF := .n (some (mkF Tryz.f270 (.e))) Tryz.cF526 .e
noncomputable def Tryz.cF269 : Tr CF := .n (some (mkF Tryz.f269 (.e))) Tryz.cF525 .e
noncomputable def Tryz.cF268 : Tr CF := .n (some (mkF Tryz.f268 (.e))) Tryz.cF524 .e
noncomputable def Tryz.cF267 : Tr CF := .n (some (mkF Tryz.f267 (.n none (.n none (.n (some ([⟨0, [], []⟩, ⟨1, [], []⟩, ⟨2, [], []⟩, ⟨3, [], []⟩, ⟨4, [], []⟩, ⟨5, [], []⟩, ⟨6, [], []⟩, ⟨7, [], []⟩, ⟨8, [], []⟩])) (.n none .e
 (.n (some ([⟨0, [], []⟩, ⟨1, [], []⟩, ⟨2, [], []⟩, ⟨3, [], []⟩, ⟨4, [], []⟩, ⟨5, [], []⟩, ⟨6, [], []⟩, ⟨7, [], []⟩, ⟨8, [], []⟩, ⟨9, [], []⟩, ⟨10, [], []⟩, ⟨11, [], []⟩, ⟨12, [2, 4, 7], []⟩, ⟨13, [], []⟩, ⟨14, [], []⟩])) .e
 .e))
 .e)
 (.n (some ([⟨0, [], []⟩, ⟨1, [], []⟩, ⟨5, [], []⟩, ⟨6, [], []⟩, ⟨2, [6], []⟩, ⟨3, [], []⟩, ⟨4, [], []⟩, ⟨7, [], []⟩, ⟨8, [], []⟩, ⟨9, [], []⟩])) .e
 .e))
 (.n none (.n none (.n none (.n (some ([⟨0, [], []⟩, ⟨1, [], []⟩, ⟨4, [], []⟩, ⟨5, [], []⟩, ⟨6, [], []⟩, ⟨7, [], []⟩, ⟨8, [], []⟩, ⟨9, [], []⟩, ⟨10, [], []⟩, ⟨13, [], []⟩, ⟨14, [], []⟩, ⟨2, [5, 7, 10, 14], []⟩, ⟨3, [], []⟩, ⟨11, [], []⟩, ⟨12, [], []⟩, ⟨15, [5, 7, 10], []⟩, ⟨16, [], []⟩, ⟨17, [], []⟩, ⟨18, [], []⟩])) .e
 .e)
 .e)
 .e)
 .e)))) Tryz.cF523 .e
noncomputable def Tryz.cF266 : Tr CF := .n (some (mkF Tryz.f266 (.e))) Tryz.cF522 .e
noncomputable def Tryz.cF265 : Tr CF := .n (some (mkF Tryz.f265 (.e))) Tryz.cF521 .e
noncomputable def Tryz.cF264 : Tr CF := .n (some (mkF Tryz.f264 (.n none (.n none (.n none (.n (some ([⟨0, [], []⟩, ⟨1, [], []⟩, ⟨2, [], []⟩, ⟨3, [], []⟩, ⟨4, [], []⟩, ⟨5, [], []⟩, ⟨6, [], []⟩, ⟨7, [], []⟩, ⟨8, [], []⟩, ⟨9, [], []⟩, ⟨10, [], []⟩, ⟨11, [], []⟩, ⟨12, [], []⟩, ⟨13, [], []⟩, ⟨14, [4, 7, 9], []⟩, ⟨15, [], []⟩, ⟨16, [], []⟩, ⟨17, [], []⟩, ⟨18, [], []⟩, ⟨19, [], []⟩, ⟨20, [], []⟩])) .e
 .e)
 .e)
 (.n (some ([⟨0, [], []⟩, ⟨1, [], []⟩, ⟨2, [], []⟩, ⟨3, [], []⟩, ⟨4, [], []⟩, ⟨5, [], []⟩, ⟨6, [], []⟩, ⟨7, [], []⟩, ⟨8, [], []⟩, ⟨9, [], []⟩, ⟨10, [], []⟩, ⟨11, [], []⟩, ⟨12, [], []⟩, ⟨13, [], []⟩, ⟨14, [], []⟩, ⟨15, [], []⟩, ⟨16, [], []⟩, ⟨17, [], []⟩, ⟨18, [], []⟩, ⟨19, [], []⟩, ⟨20, [], []⟩, ⟨21, [], []⟩, ⟨22, [], []⟩, ⟨23, [], []⟩])) .e
 .e))
 (.n (some ([⟨0, [], []⟩, ⟨1, [], []⟩, ⟨2, [], []⟩, ⟨3, [], []⟩, ⟨4, [], []⟩, ⟨5, [], []⟩, ⟨6, [], []⟩, ⟨7, [], []⟩, ⟨8, [], []⟩, ⟨9, [], []⟩, ⟨10, [], []⟩])) (.n none .e
 (.n (some ([⟨0, [], []⟩, ⟨1, [], []⟩, ⟨2, [], []⟩, ⟨3, [], []⟩, ⟨4, [], []⟩, ⟨5, [], []⟩, ⟨6, [], []⟩, ⟨7, [], []⟩, ⟨8, [], []⟩, ⟨9, [], []⟩, ⟨10, [], []⟩, ⟨11, [], []⟩, ⟨12, [], []⟩, ⟨13, [], []⟩, ⟨14, [], []⟩, ⟨15, [], []⟩])) .e
 .e))
 (.n (some ([⟨0, [], []⟩, ⟨1, [], []⟩, ⟨2, [], []⟩, ⟨3, [], []⟩, ⟨4, [], []⟩, ⟨5, [], []⟩, ⟨6, [], []⟩, ⟨7, [], []⟩, ⟨8, [], []⟩, ⟨9, [], []⟩, ⟨10, [], []⟩, ⟨11, [], []⟩, ⟨12, [], []⟩, ⟨13, [], []⟩, ⟨14, [], []⟩, ⟨15, [], []⟩, ⟨16, [], []⟩])) (.n (some ([⟨0, [], []⟩, ⟨1, [], []⟩, ⟨2, [], []⟩, ⟨3, [], []⟩, ⟨4, [], []⟩, ⟨5, [], []⟩, ⟨6, [], []⟩, ⟨7, [], []⟩, ⟨8, [], []⟩, ⟨9, [], []⟩, ⟨10, [], []⟩, ⟨11, [], []⟩, ⟨12, [], []⟩, ⟨13, [], []⟩, ⟨14, [], []⟩, ⟨15, [], []⟩])) .e
 .e)
 .e))))) Tryz.cF520 .e
noncomputable def Tryz.cF263 : Tr CF := .n (some (mkF Tryz.f263 (.n none (.n none (.n none (.n (some ([⟨0, [], []⟩, ⟨1, [], []⟩, ⟨2, [], []⟩, ⟨3, [], []⟩, ⟨4, [], []⟩, ⟨5, [], []⟩, ⟨6, [], []⟩, ⟨7, [], []⟩, ⟨8, [], []⟩, ⟨9, [], []⟩, ⟨10, [], []⟩, ⟨11, [9], []⟩, ⟨12, [], []⟩])) .e
 .e)
 (.n (some ([⟨0, [], []⟩, ⟨1, [], []⟩, ⟨2, [], []⟩, ⟨3, [], []⟩, ⟨4, [], []⟩, ⟨5, [], []⟩, ⟨6, [], []⟩, ⟨7, [], []⟩, ⟨8, [], []⟩, ⟨9, [], []⟩, ⟨10, [], []⟩, ⟨11, [], []⟩, ⟨12, [], []⟩, ⟨13, [], []⟩, ⟨14, [], []⟩, ⟨15, [], []⟩])) .e
 .e))
 .e)
 (.n none (.n (some ([⟨0, [], []⟩, ⟨1, [], []⟩, ⟨2, [], []⟩, ⟨3, [], []⟩, ⟨4, [], []⟩, ⟨5, [], []⟩, ⟨6, [], []⟩, ⟨7, [], []⟩, ⟨8, [], []⟩, ⟨9, [], []⟩, ⟨10, [], []⟩, ⟨11, [], []⟩, ⟨12, [], []⟩, ⟨13, [], []⟩, ⟨14, [], []⟩, ⟨15, [], []⟩, ⟨16, [], []⟩, ⟨17, [], []⟩, ⟨18, [], []⟩, ⟨19, [], []⟩, ⟨20, [], []⟩, ⟨21, [], []⟩, ⟨22, [], []⟩, ⟨23, [], []⟩])) .e
 .e)
 .e)))) Tryz.cF519 .e
noncomputable def Tryz.cF262 : Tr CF := .n (some (mkF Tryz.f262 (.n none .e
 (.n none (.n (some ([⟨0, [], []⟩, ⟨1, [], []⟩, ⟨2, [], []⟩, ⟨3, [], []⟩, ⟨4, [], []⟩, ⟨5, [], []⟩, ⟨6, [], []⟩, ⟨7, [], []⟩, ⟨8, [], []⟩, ⟨9, [], []⟩, ⟨10, [], []⟩])) .e
 .e)
 .e)))) Tryz.cF518 .e
noncomputable def Tryz.cF261 : Tr CF := .n (some (mkF Tryz.f261 (.n none .e
 (.n none .e
 (.n (some ([⟨0, [], []⟩, ⟨1, [], []⟩, ⟨2, [], []⟩, ⟨3, [], []⟩, ⟨4, [], []⟩, ⟨5, [], []⟩, ⟨6, [], []⟩, ⟨7, [], []⟩, ⟨8, [], []⟩, ⟨9, [], []⟩, ⟨10, [], []⟩, ⟨11, [], []⟩, ⟨12, [], []⟩, ⟨13, [], []⟩, ⟨14, [], []⟩])) .e
 .e))))) Tryz.cF517 .e
noncomputable def Tryz.cF260 : Tr CF := .n (some (mkF Tryz.f260 (.e))) Tryz.cF516 .e
noncomputable def Tryz.cF259 : Tr CF := .n (some (mkF Tryz.f259 (.n none .e
 (.n none .e
 (.n (some ([⟨0, [], []⟩, ⟨1, [], []⟩, ⟨2, [], []⟩, ⟨3, [], []⟩, ⟨4, [], []⟩, ⟨5, [], []⟩, ⟨6, [], []⟩, ⟨7, [], []⟩, ⟨8, [], []⟩])) .e
 .e))))) Tryz.cF515 .e
noncomputable def Tryz.cF258 : Tr CF := .n (some (mkF Tryz.f258 (.n none .e
 (.n (some ([⟨0, [], []⟩, ⟨1, [], []⟩, ⟨2, [], []⟩, ⟨3, [], []⟩, ⟨4, [], []⟩, ⟨5, [], []⟩, ⟨6, [], []⟩, ⟨7, [], []⟩, ⟨8, [], []⟩, ⟨9, [], []⟩, ⟨10, [], []⟩, ⟨11, [], []⟩, ⟨12, [], []⟩, ⟨13, [], []⟩, ⟨14, [], []⟩, ⟨15, [], []⟩, ⟨16, [], []⟩, ⟨17, [], []⟩, ⟨18, [], []⟩, ⟨19, [], []⟩, ⟨20, [], []⟩, ⟨21, [], []⟩, ⟨22, [], []⟩, ⟨23, [], []⟩, ⟨24, [], []⟩])) .e
 .e)))) Tryz.cF514 .e
noncomputable def Tryz.cF257 : Tr CF := .n (some (mkF Tryz.f257 (.e))) Tryz.cF513 .e
noncomputable def Tryz.cF256 : Tr CF := .n (some (mkF Tryz.f256 (.e))) Tryz.cF512 .e
noncomputable def Tryz.cF255 : Tr CF := .n (some (mkF Tryz.f255 (.n none (.n none .e
 (.n (some ([⟨0, [], []⟩, ⟨1, [], []⟩, ⟨2, [], []⟩, ⟨3, [], []⟩, ⟨4, [], []⟩, ⟨5, [], []⟩, ⟨6, [], []⟩, ⟨7, [], []⟩, ⟨8, [], []⟩, ⟨9, [], []⟩, ⟨10, [], []⟩, ⟨11, [], []⟩, ⟨12, [], []⟩, ⟨13, [], []⟩, ⟨14, [], []⟩, ⟨15, [], []⟩])) .e
 .e))
 .e))) Tryz.cF511 .e
noncomputable def Tryz.cF254 : Tr CF := .n (some (mkF Tryz.f254 (.e))) Tryz.cF382 Tryz.cF510
noncomputable def Tryz.cF253 : Tr CF := .n (some (mkF Tryz.f253 (.n none .e
 (.n none (.n (some ([⟨0, [], []⟩, ⟨1, [], []⟩, ⟨4, [], []⟩, ⟨5, [], []⟩, ⟨2, [], []⟩, ⟨3, [], []⟩, ⟨6, [], []⟩, ⟨7, [], []⟩, ⟨8, [], []⟩, ⟨9, [], []⟩])) .e
 .e)
 .e)))) Tryz.cF381 Tryz.cF509
noncomputable def Tryz.cF252 : Tr CF := .n (some (mkF Tryz.f252 (.e))) Tryz.cF380 Tryz.cF508
noncomputable def Tryz.cF251 : Tr CF := .n (some (mkF Tryz.f251 (.e))) Tryz.cF379 Tryz.cF507
noncomputable def Tryz.cF250 : Tr CF := .n (some (mkF Tryz.f250 (.e))) Tryz.cF378 Tryz.cF506
noncomputable def Tryz.cF249 : Tr CF := .n (some (mkF Tryz.f249 (.e))) Tryz.cF377 Tryz.cF505
noncomputable def Tryz.cF248 : Tr CF := .n (some (mkF Tryz.f248 (.e))) Tryz.cF376 Tryz.cF504
noncomputable def Tryz.cF247 : Tr CF := .n (some (mkF Tryz.f247 (.e))) Tryz.cF375 Tryz.cF503
noncomputable def Tryz.cF246 : Tr CF := .n (some (mkF Tryz.f246 (.e))) Tryz.cF374 Tryz.cF502
noncomputable def Tryz.cF245 : Tr CF := .n (some (mkF Tryz.f245 (.e))) Tryz.cF373 Tryz.cF501
noncomputable def Tryz.cF244 : Tr CF := .n (some (mkF Tryz.f244 (.e))) Tryz.cF372 Tryz.cF500
noncomputable def Tryz.cF243 : Tr CF := .n (some (mkF Tryz.f243 (.e))) Tryz.cF371 Tryz.cF499
noncomputable def Tryz.cF242 : Tr CF := .n (some (mkF Tryz.f242 (.n none .e
 (.n (some ([⟨0, [], []⟩, ⟨1, [], []⟩, ⟨2, [], []⟩, ⟨3, [], []⟩, ⟨4, [], []⟩, ⟨5, [], []⟩, ⟨6, [], []⟩, ⟨7, [], []⟩, ⟨8, [], []⟩, ⟨9, [], []⟩, ⟨10, [], []⟩, ⟨11, [], []⟩, ⟨12, [], []⟩, ⟨13, [], []⟩, ⟨14, [], []⟩, ⟨15, [], []⟩, ⟨16, [], []⟩, ⟨17, [], []⟩, ⟨18, [], []⟩])) .e
 .e)))) Tryz.cF370 Tryz.cF498
noncomputable def Tryz.cF241 : Tr CF := .n (some (mkF Tryz.f241 (.e))) Tryz.cF369 Tryz.cF497
noncomputable def Tryz.cF240 : Tr CF := .n (some (mkF Tryz.f240 (.n none (.n none .e
 (.n (some ([⟨0, [], []⟩, ⟨1, [], []⟩, ⟨2, [], []⟩, ⟨3, [], []⟩, ⟨4, [], []⟩, ⟨5, [], []⟩, ⟨6, [], []⟩, ⟨7, [], []⟩, ⟨8, [], []⟩, ⟨9, [], []⟩, ⟨10, [], []⟩, ⟨11, [], []⟩, ⟨12, [], []⟩, ⟨13, [], []⟩, ⟨14, [9, 11], []⟩, ⟨15, [], []⟩])) .e
 .e))
 .e))) Tryz.cF368 Tryz.cF496
noncomputable def Tryz.cF239 : Tr CF := .n (some (mkF Tryz.f239 (.e))) Tryz.cF367 Tryz.cF495
noncomputable def Tryz.cF238 : Tr CF := .n (some (mkF Tryz.f238 (.e))) Tryz.cF366 Tryz.cF494
noncomputable def Tryz.cF237 : Tr CF := .n (some (mkF Tryz.f237 (.n none .e
 (.n none (.n (some ([⟨0, [], []⟩, ⟨1, [], []⟩, ⟨2, [0], []⟩, ⟨3, [], []⟩, ⟨4, [], []⟩, ⟨5, [], []⟩, ⟨6, [], []⟩, ⟨7, [], []⟩, ⟨8, [], []⟩])) .e
 .e)
 .e)))) Tryz.cF365 Tryz.cF493
noncomputable def Tryz.cF236 : Tr CF := .n (some (mkF Tryz.f236 (.e))) Tryz.cF364 Tryz.cF492
noncomputable def Tryz.cF235 : Tr CF := .n (some (mkF Tryz.f235 (.e))) Tryz.cF363 Tryz.cF491
noncomputable def Tryz.cF234 : Tr CF := .n (some (mkF Tryz.f234 (.e))) Tryz.cF362 Tryz.cF490
noncomputable def Tryz.cF233 : Tr CF := .n (some (mkF Tryz.f233 (.n none (.n none (.n (some ([⟨0, [], []⟩, ⟨1, [], []⟩, ⟨2, [], []⟩, ⟨3, [], []⟩, ⟨4, [], []⟩, ⟨5, [], []⟩, ⟨6, [], []⟩, ⟨9, [], []⟩, ⟨10, [], []⟩, ⟨7, [], []⟩, ⟨8, [], []⟩, ⟨11, [], []⟩, ⟨12, [], []⟩])) (.n none (.n (some ([⟨0, [], []⟩, ⟨1, [], []⟩, ⟨2, [], []⟩, ⟨3, [], []⟩, ⟨4, [], []⟩, ⟨5, [], []⟩, ⟨6, [], []⟩, ⟨9, [], []⟩, ⟨10, [], []⟩, ⟨7, [], []⟩, ⟨8, [], []⟩, ⟨11, [], []⟩, ⟨12, [], []⟩])) .e
 .e)
 .e)
 (.n (some ([⟨0, [], []⟩, ⟨1, [], []⟩, ⟨2, [], []⟩, ⟨3, [], []⟩, ⟨4, [], []⟩, ⟨5, [], []⟩, ⟨6, [], []⟩, ⟨7, [], []⟩, ⟨8, [], []⟩, ⟨9, [], []⟩, ⟨10, [], []⟩, ⟨11, [], []⟩, ⟨12, [], []⟩, ⟨14, [], []⟩, ⟨15, [], []⟩, ⟨16, [], []⟩, ⟨17, [], []⟩, ⟨18, [], []⟩, ⟨19, [], []⟩, ⟨20, [], []⟩, ⟨22, [], []⟩, ⟨23, [], []⟩, ⟨24, [], []⟩, ⟨26, [], []⟩, ⟨27, [], []⟩, ⟨28, [], []⟩, ⟨13, [5, 20], []⟩, ⟨21, [5], []⟩, ⟨25, [5], []⟩, ⟨29, [5], []⟩, ⟨30, [], []⟩, ⟨31, [], []⟩, ⟨32, [], []⟩, ⟨33, [], []⟩, ⟨34, [], []⟩, ⟨35, [], []⟩, ⟨36, [], []⟩])) .e
 .e))
 (.n (some ([⟨0, [], []⟩, ⟨1, [], []⟩, ⟨2, [], []⟩, ⟨3, [], []⟩, ⟨4, [], []⟩, ⟨5, [], []⟩, ⟨6, [], []⟩, ⟨7, [], []⟩, ⟨8, [], []⟩, ⟨9, [], []⟩, ⟨10, [], []⟩, ⟨11, [], []⟩, ⟨12, [], []⟩, ⟨14, [], []⟩, ⟨15, [], []⟩, ⟨16, [], []⟩, ⟨17, [], []⟩, ⟨18, [], []⟩, ⟨19, [], []⟩, ⟨20, [], []⟩, ⟨13, [5, 20], []⟩, ⟨21, [5], []⟩, ⟨22, [], []⟩, ⟨23, [], []⟩, ⟨24, [], []⟩, ⟨25, [], []⟩, ⟨26, [], []⟩, ⟨27, [], []⟩, ⟨28, [], []⟩])) (.n (some ([⟨0, [], []⟩, ⟨1, [], []⟩, ⟨2, [], []⟩, ⟨3, [], []⟩, ⟨4, [], []⟩, ⟨5, [], []⟩, ⟨6, [], []⟩, ⟨9, [], []⟩, ⟨10, [], []⟩, ⟨7, [], []⟩, ⟨8, [], []⟩, ⟨11, [], []⟩, ⟨12, [], []⟩])) (.n (some ([⟨0, [], []⟩, ⟨1, [], []⟩, ⟨2, [], []⟩, ⟨3, [], []⟩, ⟨4, [], []⟩, ⟨5, [], []⟩, ⟨7, [], []⟩, ⟨8, [], []⟩, ⟨9, [], []⟩, ⟨11, [], []⟩, ⟨12, [], []⟩, ⟨13, [], []⟩, ⟨6, [], []⟩, ⟨10, [], []⟩, ⟨14, [], []⟩, ⟨15, [], []⟩, ⟨16, [], []⟩, ⟨17, [], []⟩, ⟨18, [], []⟩, ⟨19, [], []⟩, ⟨20, [], []⟩, ⟨21, [], []⟩, ⟨22, [], []⟩, ⟨23, [], []⟩, ⟨24, [], []⟩, ⟨25, [], []⟩, ⟨26, [], []⟩, ⟨27, [], []⟩, ⟨28, [], []⟩, ⟨29, [], []⟩])) .e
 .e)
 .e)
 .e))
 (.n (some ([⟨0, [], []⟩, ⟨1, [], []⟩, ⟨2, [], []⟩, ⟨3, [], []⟩, ⟨4, [], []⟩, ⟨5, [], []⟩, ⟨6, [], []⟩, ⟨7, [], []⟩, ⟨8, [], []⟩, ⟨9, [], []⟩, ⟨10, [], []⟩, ⟨11, [], []⟩, ⟨12, [], []⟩, ⟨14, [], []⟩, ⟨15, [], []⟩, ⟨16, [], []⟩, ⟨18, [], []⟩, ⟨19, [], []⟩, ⟨20, [], []⟩, ⟨22, [], []⟩, ⟨23, [], []⟩, ⟨24, [], []⟩, ⟨13, [5], []⟩, ⟨17, [5], []⟩, ⟨21, [5], []⟩, ⟨25, [5], []⟩, ⟨26, [], []⟩, ⟨27, [], []⟩, ⟨28, [], []⟩, ⟨29, [], []⟩, ⟨30, [], []⟩, ⟨31, [], []⟩, ⟨32, [], []⟩])) (.n none (.n (some ([⟨0, [], []⟩, ⟨1, [], []⟩, ⟨2, [], []⟩, ⟨3, [], []⟩, ⟨4, [], []⟩, ⟨5, [], []⟩, ⟨6, [], []⟩, ⟨7, [], []⟩, ⟨8, [], []⟩, ⟨9, [], []⟩, ⟨10, [], []⟩, ⟨11, [], []⟩, ⟨12, [], []⟩, ⟨14, [], []⟩, ⟨15, [], []⟩, ⟨16, [], []⟩, ⟨17, [], []⟩, ⟨18, [], []⟩, ⟨19, [], []⟩, ⟨20, [], []⟩, ⟨22, [], []⟩, ⟨23, [], []⟩, ⟨24, [], []⟩, ⟨25, [], []⟩, ⟨26, [], []⟩, ⟨27, [], []⟩, ⟨28, [], []⟩, ⟨13, [5, 20, 28], []⟩, ⟨21, [5, 28], []⟩, ⟨29, [5], []⟩, ⟨30, [], []⟩, ⟨31, [], []⟩, ⟨32, [], []⟩, ⟨33, [], []⟩, ⟨34, [], []⟩, ⟨35, [], []⟩, ⟨36, [], []⟩])) .e
 .e)
 (.n (some ([⟨0, [], []⟩, ⟨1, [], []⟩, ⟨2, [], []⟩, ⟨3, [], []⟩, ⟨4, [], []⟩, ⟨5, [], []⟩, ⟨6, [], []⟩, ⟨9, [], []⟩, ⟨10, [], []⟩, ⟨7, [], []⟩, ⟨8, [], []⟩, ⟨11, [], []⟩, ⟨12, [], []⟩])) .e
 .e))
 (.n (some ([⟨0, [], []⟩, ⟨1, [], []⟩, ⟨2, [], []⟩, ⟨3, [], []⟩, ⟨4, [], []⟩, ⟨5, [], []⟩, ⟨6, [], []⟩, ⟨9, [], []⟩, ⟨10, [], []⟩, ⟨7, [], []⟩, ⟨8, [], []⟩, ⟨11, [], []⟩, ⟨12, [], []⟩])) .e
 (.n (some ([⟨0, [], []⟩, ⟨1, [], []⟩, ⟨2, [], []⟩, ⟨3, [], []⟩, ⟨4, [], []⟩, ⟨5, [], []⟩, ⟨6, [], []⟩, ⟨7, [], []⟩, ⟨8, [], []⟩, ⟨9, [], []⟩, ⟨11, [], []⟩, ⟨12, [], []⟩, ⟨13, [], []⟩, ⟨15, [], []⟩, ⟨16, [], []⟩, ⟨17, [], []⟩, ⟨19, [], []⟩, ⟨20, [], []⟩, ⟨21, [], []⟩, ⟨23, [], []⟩, ⟨24, [], []⟩, ⟨25, [], []⟩, ⟨27, [], []⟩, ⟨28, [], []⟩, ⟨29, [], []⟩, ⟨10, [6], []⟩, ⟨14, [6], []⟩, ⟨18, [6], []⟩, ⟨22, [6], []⟩, ⟨26, [6], []⟩, ⟨30, [6], []⟩, ⟨31, [], []⟩, ⟨32, [], []⟩, ⟨33, [], []⟩, ⟨34, [], []⟩, ⟨35, [], []⟩, ⟨36, [], []⟩, ⟨37, [], []⟩, ⟨38, [], []⟩])) .e
 .e)))))) Tryz.cF361 Tryz.cF489
noncomputable def Tryz.cF232 : Tr CF := .n (some (mkF Tryz.f232 (.e))) Tryz.cF360 Tryz.cF488
noncomputable def Tryz.cF231 : Tr CF := .n (some (mkF Tryz.f231 (.e))) Tryz.cF359 Tryz.cF487
noncomputable def Tryz.cF230 : Tr CF := .n (some (mkF Tryz.f230 (.e))) Tryz.cF358 Tryz.cF486
noncomputable def Tryz.cF229 : Tr CF := .n (some (mkF Tryz.f229 (.e))) Tryz.cF357 Tryz.cF485
noncomputable def Tryz.cF228 : Tr CF := .n (some (mkF Tryz.f228 (.e))) Tryz.cF356 Tryz.cF484
noncomputable def Tryz.cF227 : Tr CF := .n (some (mkF Tryz.f227 (.e))) Tryz.cF355 Tryz.cF483
noncomputable def Tryz.cF226 : Tr CF := .n (some (mkF Tryz.f226 (.e))) Tryz.cF354 Tryz.cF482
noncomputable def Tryz.cF225 : Tr CF := .n (some (mkF Tryz.f225 (.e))) Tryz.cF353 Tryz.cF481
noncomputable def Tryz.cF224 : Tr CF := .n (some (mkF Tryz.f224 (.e))) Tryz.cF352 Tryz.cF480
noncomputable def Tryz.cF223 : Tr CF := .n (some (mkF Tryz.f223 (.e))) Tryz.cF351 Tryz.cF479
noncomputable def Tryz.cF222 : Tr CF := .n (some (mkF Tryz.f222 (.e))) Tryz.cF350 Tryz.cF478
noncomputable def Tryz.cF221 : Tr CF := .n (some (mkF Tryz.f221 (.e))) Tryz.cF349 Tryz.cF477
noncomputable def Tryz.cF220 : Tr CF := .n (some (mkF Tryz.f220 (.e))) Tryz.cF348 Tryz.cF476
noncomputable def Tryz.cF219 : Tr CF := .n (some (mkF Tryz.f219 (.e))) Tryz.cF347 Tryz.cF475
noncomputable def Tryz.cF218 : Tr CF := .n (some (mkF Tryz.f218 (.n none (.n (some ([⟨0, [], []⟩, ⟨1, [], []⟩, ⟨2, [], []⟩, ⟨3, [], []⟩, ⟨4, [], []⟩, ⟨5, [], []⟩, ⟨6, [], []⟩, ⟨7, [], []⟩, ⟨8, [], []⟩, ⟨9, [], []⟩, ⟨10, [], []⟩, ⟨11, [], []⟩, ⟨12, [], []⟩])) .e
 .e)
 (.n none (.n (some ([⟨0, [], []⟩, ⟨1, [], []⟩, ⟨2, [], []⟩, ⟨3, [], []⟩, ⟨4, [], []⟩, ⟨5, [], []⟩, ⟨6, [], []⟩, ⟨7, [3, 4], []⟩, ⟨8, [], []⟩, ⟨9, [], []⟩, ⟨10, [], []⟩])) .e
 .e)
 .e)))) Tryz.cF346 Tryz.cF474
noncomputable def Tryz.cF217 : Tr CF := .n (some (mkF Tryz.f217 (.n none (.n (some ([⟨0, [], []⟩, ⟨1, [], []⟩, ⟨2, [], []⟩, ⟨3, [], []⟩, ⟨4, [], []⟩, ⟨5, [], []⟩, ⟨6, [], []⟩, ⟨7, [], []⟩, ⟨8, [], []⟩, ⟨9, [], []⟩, ⟨10, [], []⟩, ⟨11, [], []⟩, ⟨12, [], []⟩, ⟨13, [], []⟩, ⟨14, [], []⟩, ⟨15, [], []⟩, ⟨16, [], []⟩, ⟨17, [], []⟩])) .e
 .e)
 .e))) Tryz.cF345 Tryz.cF473
noncomputable def Tryz.cF216 : Tr CF := .n (some (mkF Tryz.f216 (.n none (.n none (.n (some ([⟨0, [], []⟩, ⟨1, [], []⟩, ⟨2, [], []⟩, ⟨3, [], []⟩, ⟨4, [], []⟩, ⟨5, [], []⟩, ⟨6, [], []⟩, ⟨7, [], []⟩, ⟨8, [], []⟩, ⟨9, [], []⟩, ⟨10, [], []⟩, ⟨11, [], []⟩, ⟨12, [], []⟩])) .e
 .e)
 (.n (some ([⟨0, [], []⟩, ⟨1, [], []⟩, ⟨2, [], []⟩, ⟨3, [], []⟩, ⟨4, [], []⟩, ⟨5, [], []⟩, ⟨6, [], []⟩, ⟨7, [], []⟩, ⟨8, [], []⟩, ⟨9, [], []⟩, ⟨10, [], []⟩, ⟨11, [], []⟩, ⟨12, [], []⟩])) .e
 .e))
 (.n none .e
 (.n none (.n (some ([⟨0, [], []⟩, ⟨1, [], []⟩, ⟨2, [], []⟩, ⟨3, [], []⟩, ⟨4, [], []⟩, ⟨5, [], []⟩, ⟨6, [], []⟩, ⟨7, [], []⟩, ⟨8, [], []⟩, ⟨9, [], []⟩, ⟨10, [], []⟩, ⟨11, [], []⟩, ⟨12, [], []⟩, ⟨13, [], []⟩, ⟨14, [], []⟩, ⟨15, [], []⟩, ⟨16, [], []⟩, ⟨17, [4, 6, 8, 10, 12, 14], []⟩, ⟨18, [], []⟩, ⟨19, [], []⟩, ⟨20, [], []⟩, ⟨21, [], []⟩, ⟨22, [], []⟩, ⟨23, [], []⟩])) .e
 .e)
 .e))))) Tryz.cF344 Tryz.cF472
noncomputable def Tryz.cF215 : Tr CF := .n (some (mkF Tryz.f215 (.e))) Tryz.cF343 Tryz.cF471
noncomputable def Tryz.cF214 : Tr CF := .n (some (mkF Tryz.f214 (.e))) Tryz.cF342 Tryz.cF470
noncomputable def Tryz.cF213 : Tr CF := .n (some (mkF Tryz.f213 (.n none (.n none (.n none (.n none (.n (some ([⟨0, [], []⟩, ⟨1, [], []⟩, ⟨2, [], []⟩, ⟨3, [], []⟩, ⟨4, [], []⟩, ⟨5, [], []⟩, ⟨6, [], []⟩, ⟨7, [], []⟩, ⟨8, [], []⟩, ⟨9, [], []⟩, ⟨10, [], []⟩, ⟨11, [], []⟩, ⟨12, [], []⟩, ⟨13, [], []⟩])) .e
 .e)
 (.n (some ([⟨0, [], []⟩, ⟨1, [], []⟩, ⟨2, [], []⟩, ⟨3, [], []⟩, ⟨4, [], []⟩, ⟨5, [], []⟩, ⟨6, [], []⟩, ⟨7, [], []⟩, ⟨8, [5], []⟩, ⟨9, [], []⟩])) .e
 .e))
 .e)
 .e)
 (.n none .e
 (.n none (.n (some ([⟨0, [], []⟩, ⟨1, [], []⟩, ⟨2, [], []⟩, ⟨3, [], []⟩, ⟨4, [], []⟩, ⟨5, [], []⟩, ⟨6, [], []⟩, ⟨7, [], []⟩, ⟨8, [], []⟩, ⟨9, [], []⟩, ⟨10, [], []⟩, ⟨11, [], []⟩, ⟨12, [], []⟩, ⟨13, [], []⟩, ⟨14, [], []⟩, ⟨15, [], []⟩])) .e
 .e)
 .e))))) Tryz.cF341 Tryz.cF469
noncomputable def Tryz.cF212 : Tr CF := .n (some (mkF Tryz.f212 (.e))) Tryz.cF340 Tryz.cF468
noncomputable def Tryz.cF211 : Tr CF := .n (some (mkF Tryz.f211 (.e))) Tryz.cF339 Tryz.cF467
noncomputable def Tryz.cF210 : Tr CF := .n (some (mkF Tryz.f210 (.e))) Tryz.cF338 Tryz.cF466
noncomputable def Tryz.cF209 : Tr CF := .n (some (mkF Tryz.f209 (.e))) Tryz.cF337 Tryz.cF465
noncomputable def Tryz.cF208 : Tr CF := .n (some (mkF Tryz.f208 (.e))) Tryz.cF336 Tryz.cF464
noncomputable def Tryz.cF207 : Tr CF := .n (some (mkF Tryz.f207 (.e))) Tryz.cF335 Tryz.cF463
noncomputable def Tryz.cF206 : Tr CF := .n (some (mkF Tryz.f206 (.e))) Tryz.cF334 Tryz.cF462
noncomputable def Tryz.cF205 : Tr CF := .n (some (mkF Tryz.f205 (.e))) Tryz.cF333 Tryz.cF461
noncomputable def Tryz.cF204 : Tr CF := .n (some (mkF Tryz.f204 (.n none (.n (some ([⟨0, [], []⟩, ⟨1, [], []⟩, ⟨3, [], []⟩, ⟨4, [], []⟩, ⟨2, [4], []⟩, ⟨5, [], []⟩, ⟨6, [], []⟩, ⟨7, [], []⟩])) .e
 .e)
 .e))) Tryz.cF332 Tryz.cF460
noncomputable def Tryz.cF203 : Tr CF := .n (some (mkF Tryz.f203 (.e))) Tryz.cF331 Tryz.cF459
noncomputable def Tryz.cF202 : Tr CF := .n (some (mkF Tryz.f202 (.e))) Tryz.cF330 Tryz.cF458
noncomputable def Tryz.cF201 : Tr CF := .n (some (mkF Tryz.f201 (.n none (.n none (.n none (.n (some ([⟨0, [], []⟩, ⟨1, [], []⟩, ⟨2, [], []⟩, ⟨3, [], []⟩, ⟨4, [], []⟩, ⟨5, [], []⟩, ⟨6, [], []⟩, ⟨7, [], []⟩, ⟨8, [1, 3, 5], []⟩, ⟨9, [], []⟩, ⟨10, [], []⟩, ⟨11, [], []⟩])) .e
 .e)
 .e)
 .e)
 (.n none .e
 (.n none (.n (some ([⟨0, [], []⟩, ⟨1, [], []⟩, ⟨2, [], []⟩, ⟨3, [], []⟩, ⟨4, [], []⟩, ⟨5, [], []⟩, ⟨6, [], []⟩, ⟨7, [], []⟩, ⟨8, [], []⟩, ⟨9, [], []⟩, ⟨10, [], []⟩, ⟨11, [], []⟩, ⟨12, [], []⟩, ⟨13, [6, 11], []⟩, ⟨14, [], []⟩, ⟨15, [], []⟩])) .e
 .e)
 .e))))) Tryz.cF329 Tryz.cF457
noncomputable def Tryz.cF200 : Tr CF := .n (some (mkF Tryz.f200 (.n none (.n none .e
 (.n none (.n none (.n (some ([⟨0, [], []⟩, ⟨1, [], []⟩, ⟨2, [], []⟩, ⟨3, [], []⟩, ⟨4, [], []⟩, ⟨5, [], []⟩, ⟨6, [], []⟩, ⟨7, [], []⟩, ⟨8, [], []⟩, ⟨9, [], []⟩, ⟨10, [], []⟩, ⟨11, [], []⟩, ⟨12, [], []⟩, ⟨13, [], []⟩, ⟨14, [], []⟩, ⟨15, [], []⟩, ⟨16, [], []⟩, ⟨17, [], []⟩])) .e
 .e)
 (.n (some ([⟨0, [], []⟩, ⟨1, [], []⟩, ⟨2, [], []⟩, ⟨3, [], []⟩, ⟨4, [], []⟩, ⟨5, [], []⟩, ⟨6, [], []⟩, ⟨7, [], []⟩, ⟨8, [], []⟩, ⟨9, [], []⟩, ⟨10, [], []⟩, ⟨11, [], []⟩])) .e
 .e))
 .e))
 .e))) Tryz.cF328 Tryz.cF456
noncomputable def Tryz.cF199 : Tr CF := .n (some (mkF Tryz.f199 (.e))) Tryz.cF327 Tryz.cF455
noncomputable def Tryz.cF198 : Tr CF := .n (some (mkF Tryz.f198 (.e))) Tryz.cF326 Tryz.cF454
noncomputable def Tryz.cF197 : Tr CF := .n (some (mkF Tryz.f197 (.n none (.n none .e
 (.n none (.n (some ([⟨0, [], []⟩, ⟨1, [], []⟩, ⟨2, [], []⟩, ⟨3, [], []⟩, ⟨4, [], []⟩, ⟨5, [], []⟩, ⟨6, [], []⟩, ⟨7, [1], []⟩, ⟨8, [], []⟩, ⟨9, [], []⟩, ⟨10, [], []⟩])) .e
 .e)
 .e))
 (.n none (.n none (.n (some ([⟨0, [], []⟩, ⟨1, [], []⟩, ⟨2, [], []⟩, ⟨3, [], []⟩, ⟨4, [], []⟩, ⟨5, [], []⟩, ⟨6, [1], []⟩, ⟨7, [], []⟩, ⟨8, [], []⟩, ⟨9, [], []⟩, ⟨10, [], []⟩])) .e
 .e)
 .e)
 .e)))) Tryz.cF325 Tryz.cF453
noncomputable def Tryz.cF196 : Tr CF := .n (some (mkF Tryz.f196 (.n none (.n none (.n (some ([⟨0, [], []⟩, ⟨1, [], []⟩, ⟨2, [], []⟩, ⟨3, [], []⟩, ⟨4, [], []⟩, ⟨5, [], []⟩, ⟨6, [], []⟩, ⟨7, [], []⟩, ⟨8, [], []⟩, ⟨9, [], []⟩, ⟨10, [], []⟩, ⟨11, [], []⟩, ⟨12, [], []⟩])) .e
 .e)
 .e)
 .e))) Tryz.cF324 Tryz.cF452
noncomputable def Tryz.cF195 : Tr CF := .n (some (mkF Tryz.f195 (.e))) Tryz.cF323 Tryz.cF451
noncomputable def Tryz.cF194 : Tr CF := .n (some (mkF Tryz.f194 (.n none (.n (some ([⟨0, [], []⟩, ⟨1, [], []⟩, ⟨2, [], []⟩, ⟨3, [], []⟩, ⟨4, [], []⟩, ⟨5, [], []⟩, ⟨6, [], []⟩, ⟨7, [], []⟩, ⟨8, [], []⟩, ⟨9, [], []⟩, ⟨10, [], []⟩, ⟨11, [], []⟩, ⟨12, [], []⟩, ⟨13, [], []⟩, ⟨14, [], []⟩, ⟨15, [], []⟩, ⟨16, [], []⟩, ⟨17, [], []⟩, ⟨18, [], []⟩, ⟨19, [], []⟩, ⟨20, [], []⟩, ⟨21, [], []⟩, ⟨22, [], []⟩, ⟨23, [], []⟩, ⟨24, [], []⟩, ⟨25, [], []⟩, ⟨26, [], []⟩, ⟨27, [], []⟩, ⟨28, [], []⟩, ⟨29, [], []⟩, ⟨30, [], []⟩, ⟨31, [], []⟩, ⟨32, [], []⟩, ⟨33, [], []⟩, ⟨34, [], []⟩, ⟨35, [], []⟩, ⟨36, [], []⟩])) .e
 .e)
 .e))) Tryz.cF322 Tryz.cF450
noncomputable def Tryz.cF193 : Tr CF := .n (some (mkF Tryz.f193 (.n none (.n none .e
 (.n none .e
 (.n (some ([⟨0, [], []⟩, ⟨1, [], []⟩, ⟨2, [], []⟩, ⟨3, [], []⟩, ⟨4, [], []⟩, ⟨5, [], []⟩, ⟨6, [], []⟩, ⟨7, [], []⟩])) .e
 .e)))
 .e))) Tryz.cF321 Tryz.cF449
noncomputable def Tryz.cF192 : Tr CF := .n (some (mkF Tryz.f192 (.e))) Tryz.cF320 Tryz.cF448
noncomputable def Tryz.cF191 : Tr CF := .n (some (mkF Tryz.f191 (.e))) Tryz.cF319 Tryz.cF447
noncomputable def Tryz.cF190 : Tr CF := .n (some (mkF Tryz.f190 (.e))) Tryz.cF318 Tryz.cF446
noncomputable def Tryz.cF189 : Tr CF := .n (some (mkF Tryz.f189 (.e))) Tryz.cF317 Tryz.cF445
noncomputable def Tryz.cF188 : Tr CF := .n (some (mkF Tryz.f188 (.e))) Tryz.cF316 Tryz.cF444
noncomputable def Tryz.cF187 : Tr CF := .n (some (mkF Tryz.f187 (.e))) Tryz.cF315 Tryz.cF443
noncomputable def Tryz.cF186 : Tr CF := .n (some (mkF Tryz.f186 (.e))) Tryz.cF314 Tryz.cF442
noncomputable def Tryz.cF185 : Tr CF := .n (some (mkF Tryz.f185 (.e))) Tryz.cF313 Tryz.cF441
noncomputable def Tryz.cF184 : Tr CF := .n (some (mkF Tryz.f184 (.e))) Tryz.cF312 Tryz.cF440
noncomputable def Tryz.cF183 : Tr CF := .n (some (mkF Tryz.f183 (.e))) Tryz.cF311 Tryz.cF439
noncomputable def Tryz.cF182 : Tr CF := .n (some (mkF Tryz.f182 (.e))) Tryz.cF310 Tryz.cF438
noncomputable def Tryz.cF181 : Tr CF := .n (some (mkF Tryz.f181 (.n none (.n none (.n none (.n (some ([⟨0, [], []⟩, ⟨1, [], []⟩, ⟨2, [], []⟩, ⟨3, [], []⟩, ⟨4, [], []⟩, ⟨5, [], []⟩])) (.n (some ([⟨0, [], []⟩, ⟨1, [], []⟩, ⟨2, [], []⟩, ⟨3, [], []⟩, ⟨4, [], []⟩, ⟨5, [], []⟩])) .e
 .e)
 .e)
 (.n (some ([⟨0, [], []⟩, ⟨1, [], []⟩, ⟨2, [], []⟩])) .e
 .e))
 (.n (some ([⟨0, [], []⟩, ⟨1, [], []⟩, ⟨2, [], []⟩])) .e
 .e))
 (.n none (.n none (.n (some ([⟨0, [], []⟩, ⟨1, [], []⟩, ⟨2, [], []⟩])) .e
 .e)
 .e)
 .e)))) Tryz.cF309 Tryz.cF437
noncomputable def Tryz.cF180 : Tr CF := .n (some (mkF Tryz.f180 (.n none (.n none .e
 (.n (some ([⟨0, [], []⟩, ⟨1, [], []⟩, ⟨2, [], []⟩, ⟨3, [], []⟩, ⟨4, [], []⟩, ⟨5, [], []⟩, ⟨6, [], []⟩])) .e
 .e))
 .e))) Tryz.cF308 Tryz.cF436
noncomputable def Tryz.cF179 : Tr CF := .n (some (mkF Tryz.f179 (.e))) Tryz.cF307 Tryz.cF435
noncomputable def Tryz.cF178 : Tr CF := .n (some (mkF Tryz.f178 (.e))) Tryz.cF306 Tryz.cF434
noncomputable def Tryz.cF177 : Tr CF := .n (some (mkF Tryz.f177 (.e))) Tryz.cF305 Tryz.cF433
noncomputable def Tryz.cF176 : Tr CF := .n (some (mkF Tryz.f176 (.e))) Tryz.cF304 Tryz.cF432
noncomputable def Tryz.cF175 : Tr CF := .n (some (mkF Tryz.f175 (.n none .e
 (.n none (.n none (.n (some ([⟨0, [], []⟩, ⟨1, [], []⟩, ⟨2, [], []⟩, ⟨3, [], []⟩, ⟨4, [], []⟩, ⟨5, [], []⟩, ⟨6, [], []⟩, ⟨7, [], []⟩, ⟨8, [], []⟩, ⟨9, [], []⟩])) .e
 .e)
 .e)
 (.n (some ([⟨0, [], []⟩, ⟨1, [], []⟩, ⟨2, [], []⟩, ⟨3, [], []⟩, ⟨4, [], []⟩, ⟨5, [], []⟩, ⟨6, [], []⟩, ⟨7, [], []⟩])) .e
 .e))))) Tryz.cF303 Tryz.cF431
noncomputable def Tryz.cF174 : Tr CF := .n (some (mkF Tryz.f174 (.e))) Tryz.cF302 Tryz.cF430
noncomputable def Tryz.cF173 : Tr CF := .n (some (mkF Tryz.f173 (.e))) Tryz.cF301 Tryz.cF429
noncomputable def Tryz.cF172 : Tr CF := .n (some (mkF Tryz.f172 (.n none (.n none (.n none (.n none (.n (some ([⟨0, [], []⟩, ⟨1, [], []⟩, ⟨2, [], []⟩, ⟨3, [], []⟩, ⟨4, [], []⟩, ⟨5, [], []⟩, ⟨6, [], []⟩, ⟨7, [], []⟩, ⟨8, [], []⟩])) .e
 .e)
 .e)
 .e)
 (.n none (.n none (.n (some ([⟨0, [], []⟩, ⟨1, [], []⟩, ⟨2, [], []⟩, ⟨3, [], []⟩, ⟨4, [], []⟩, ⟨5, [], []⟩, ⟨6, [], []⟩, ⟨7, [], []⟩, ⟨8, [], []⟩])) .e
 .e)
 .e)
 .e))
 (.n none (.n none (.n none (.n (some ([⟨0, [], []⟩, ⟨1, [], []⟩, ⟨2, [], []⟩, ⟨3, [], []⟩, ⟨4, [], []⟩, ⟨5, [], []⟩, ⟨6, [], []⟩, ⟨7, [], []⟩, ⟨8, [], []⟩])) .e
 .e)
 .e)
 .e)
 .e)))) Tryz.cF300 Tryz.cF428
noncomputable def Tryz.cF171 : Tr CF := .n (some (mkF Tryz.f171 (.e))) Tryz.cF299 Tryz.cF427
noncomputable def Tryz.cF170 : Tr CF := .n (some (mkF Tryz.f170 (.e))) Tryz.cF298 Tryz.cF426
noncomputable def Tryz.cF169 : Tr CF := .n (some (mkF Tryz.f169 (.e))) Tryz.cF297 Tryz.cF425
noncomputable def Tryz.cF168 : Tr CF := .n (some (mkF Tryz.f168 (.e))) Tryz.cF296 Tryz.cF424
noncomputable def Tryz.cF167 : Tr CF := .n (some (mkF Tryz.f167 (.e))) Tryz.cF295 Tryz.cF423
noncomputable def Tryz.cF166 : Tr CF := .n (some (mkF Tryz.f166 (.e))) Tryz.cF294 Tryz.cF422
noncomputable def Tryz.cF165 : Tr CF := .n (some (mkF Tryz.f165 (.e))) Tryz.cF293 Tryz.cF421
noncomputable def Tryz.cF164 : Tr CF := .n (some (mkF Tryz.f164 (.e))) Tryz.cF292 Tryz.cF420
noncomputable def Tryz.cF163 : Tr CF := .n (some (mkF Tryz.f163 (.n none .e
 (.n none (.n (some ([⟨0, [], []⟩, ⟨1, [], []⟩, ⟨2, [], []⟩, ⟨3, [], []⟩, ⟨4, [], []⟩, ⟨5, [], []⟩])) .e
 .e)
 .e)))) Tryz.cF291 Tryz.cF419
noncomputable def Tryz.cF162 : Tr CF := .n (some (mkF Tryz.f162 (.e))) Tryz.cF290 Tryz.cF418
noncomputable def Tryz.cF161 : Tr CF := .n (some (mkF Tryz.f161 (.e))) Tryz.cF289 Tryz.cF417
noncomputable def Tryz.cF160 : Tr CF := .n (some (mkF Tryz.f160 (.e))) Tryz.cF288 Tryz.cF416
noncomputable def Tryz.cF159 : Tr CF := .n (some (mkF Tryz.f159 (.e))) Tryz.cF287 Tryz.cF415
noncomputable def Tryz.cF158 : Tr CF := .n (some (mkF Tryz.f158 (.n none (.n (some ([⟨0, [], []⟩, ⟨1, [], []⟩, ⟨3, [], []⟩, ⟨4, [], []⟩, ⟨6, [], []⟩, ⟨7, [], []⟩, ⟨9, [], []⟩, ⟨10, [], []⟩, ⟨2, [4, 7, 10], []⟩, ⟨5, [7, 10], []⟩, ⟨8, [10], []⟩, ⟨11, [], []⟩, ⟨12, [], []⟩, ⟨13, [], []⟩, ⟨14, [], []⟩])) .e
 .e)
 .e))) Tryz.cF286 Tryz.cF414
noncomputable def Tryz.cF157 : Tr CF := .n (some (mkF Tryz.f157 (.e))) Tryz.cF285 Tryz.cF413
noncomputable def Tryz.cF156 : Tr CF := .n (some (mkF Tryz.f156 (.n none .e
 (.n none (.n none (.n (some ([⟨0, [], []⟩, ⟨1, [], []⟩, ⟨2, [], []⟩, ⟨6, [], []⟩, ⟨7, [], []⟩, ⟨8, [], []⟩, ⟨9, [], []⟩, ⟨10, [], []⟩, ⟨11, [], []⟩, ⟨12, [], []⟩, ⟨13, [], []⟩, ⟨14, [], []⟩, ⟨3, [6, 9, 11, 13, 14], []⟩, ⟨4, [], []⟩, ⟨5, [], []⟩, ⟨15, [], []⟩, ⟨16, [], []⟩, ⟨17, [], []⟩, ⟨18, [], []⟩])) .e
 .e)
 .e)
 (.n (some ([⟨0, [], []⟩, ⟨1, [], []⟩, ⟨2, [], []⟩, ⟨3, [], []⟩, ⟨4, [], []⟩, ⟨5, [], []⟩, ⟨6, [], []⟩, ⟨7, [], []⟩, ⟨8, [], []⟩, ⟨9, [], []⟩, ⟨10, [], []⟩, ⟨11, [], []⟩, ⟨12, [], []⟩, ⟨13, [], []⟩, ⟨14, [], []⟩, ⟨15, [], []⟩, ⟨16, [], []⟩, ⟨17, [], []⟩, ⟨18, [], []⟩, ⟨19, [], []⟩, ⟨20, [], []⟩, ⟨21, [], []⟩, ⟨22, [], []⟩, ⟨23, [], []⟩, ⟨24, [], []⟩])) .e
 .e))))) Tryz.cF284 Tryz.cF412
noncomputable def Tryz.cF155 : Tr CF := .n (some (mkF Tryz.f155 (.n none (.n none (.n none (.n none .e
 (.n (some ([⟨0, [], []⟩, ⟨1, [], []⟩, ⟨2, [], []⟩, ⟨3, [], []⟩, ⟨4, [], []⟩, ⟨5, [], []⟩, ⟨6, [], []⟩, ⟨7, [], []⟩, ⟨8, [], []⟩, ⟨9, [], []⟩, ⟨10, [], []⟩, ⟨11, [], []⟩, ⟨12, [], []⟩, ⟨13, [], []⟩, ⟨14, [], []⟩, ⟨15, [], []⟩, ⟨16, [], []⟩, ⟨17, [], []⟩, ⟨18, [0], []⟩, ⟨19, [], []⟩, ⟨20, [], []⟩, ⟨21, [], []⟩])) .e
 .e))
 .e)
 .e)
 .e))) Tryz.cF283 Tryz.cF411
noncomputable def Tryz.cF154 : Tr CF := .n (some (mkF Tryz.f154 (.n none (.n none .e
 (.n none .e
 (.n (some ([⟨0, [], []⟩, ⟨1, [], []⟩, ⟨2, [], []⟩, ⟨3, [], []⟩, ⟨4, [], []⟩, ⟨5, [], []⟩, ⟨9, [], []⟩, ⟨10, [], []⟩, ⟨6, [1, 10], []⟩, ⟨7, [], []⟩, ⟨8, [], []⟩, ⟨11, [1], []⟩, ⟨12, [], []⟩, ⟨13, [], []⟩])) .e
 .e)))
 (.n none (.n none (.n (some ([⟨0, [], []⟩, ⟨1, [], []⟩, ⟨2, [], []⟩, ⟨3, [], []⟩, ⟨4, [], []⟩, ⟨5, [], []⟩, ⟨6, [], []⟩, ⟨7, [], []⟩, ⟨8, [], []⟩, ⟨9, [], []⟩, ⟨10, [], []⟩, ⟨11, [], []⟩, ⟨12, [], []⟩, ⟨13, [], []⟩, ⟨14, [], []⟩, ⟨15, [], []⟩, ⟨16, [], []⟩, ⟨17, [], []⟩, ⟨18, [], []⟩, ⟨19, [], []⟩, ⟨20, [], []⟩, ⟨21, [], []⟩, ⟨22, [], []⟩, ⟨23, [], []⟩, ⟨24, [], []⟩, ⟨25, [], []⟩, ⟨26, [], []⟩, ⟨27, [], []⟩, ⟨28, [], []⟩])) .e
 .e)
 .e)
 (.n none .e
 (.n (some ([⟨0, [], []⟩, ⟨1, [], []⟩, ⟨2, [], []⟩, ⟨3, [], []⟩, ⟨4, [], []⟩, ⟨5, [], []⟩, ⟨6, [], []⟩, ⟨7, [], []⟩, ⟨8, [], []⟩, ⟨9, [], []⟩, ⟨10, [], []⟩, ⟨11, [], []⟩, ⟨12, [], []⟩, ⟨13, [], []⟩, ⟨14, [], []⟩, ⟨15, [], []⟩, ⟨16, [], []⟩, ⟨17, [], []⟩, ⟨18, [], []⟩, ⟨19, [], []⟩, ⟨20, [], []⟩, ⟨21, [], []⟩, ⟨22, [], []⟩, ⟨23, [], []⟩, ⟨24, [], []⟩, ⟨25, [], []⟩, ⟨26, [], []⟩, ⟨27, [], []⟩, ⟨28, [], []⟩, ⟨29, [], []⟩, ⟨30, [], []⟩, ⟨31, [], []⟩, ⟨32, [], []⟩])) .e
 .e)))))) Tryz.cF282 Tryz.cF410
noncomputable def Tryz.cF153 : Tr CF := .n (some (mkF Tryz.f153 (.e))) Tryz.cF281 Tryz.cF409
noncomputable def Tryz.cF152 : Tr CF := .n (some (mkF Tryz.f152 (.e))) Tryz.cF280 Tryz.cF408
noncomputable def Tryz.cF151 : Tr CF := .n (some (mkF Tryz.f151 (.e))) Tryz.cF279 Tryz.cF407
noncomputable def Tryz.cF150 : Tr CF := .n (some (mkF Tryz.f150 (.e))) Tryz.cF278 Tryz.cF406
noncomputable def Tryz.cF149 : Tr CF := .n (some (mkF Tryz.f149 (.n none .e
 (.n none .e
 (.n (some ([⟨0, [], []⟩, ⟨1, [], []⟩, ⟨2, [], []⟩, ⟨3, [], []⟩, ⟨4, [], []⟩, ⟨5, [], []⟩, ⟨6, [], []⟩, ⟨7, [], []⟩, ⟨8, [], []⟩, ⟨9, [], []⟩, ⟨10, [], []⟩])) .e
 .e))))) Tryz.cF277 Tryz.cF405
noncomputable def Tryz.cF148 : Tr CF := .n (some (mkF Tryz.f148 (.e))) Tryz.cF276 Tryz.cF404
noncomputable def Tryz.cF147 : Tr CF := .n (some (mkF Tryz.f147 (.n none .e
 (.n none (.n none .e
 (.n (some ([⟨0, [], []⟩, ⟨1, [], []⟩, ⟨2, [], []⟩, ⟨3, [], []⟩, ⟨4, [], []⟩, ⟨5, [], []⟩, ⟨6, [], []⟩, ⟨7, [], []⟩, ⟨8, [], []⟩, ⟨9, [], []⟩])) .e
 .e))
 .e)))) Tryz.cF275 Tryz.cF403
noncomputable def Tryz.cF146 : Tr CF := .n (some (mkF Tryz.f146 (.e))) Tryz.cF274 Tryz.cF402
noncomputable def Tryz.cF145 : Tr CF := .n (some (mkF Tryz.f145 (.e))) Tryz.cF273 Tryz.cF401
noncomputable def Tryz.cF144 : Tr CF := .n (some (mkF Tryz.f144 (.e))) Tryz.cF272 Tryz.cF400
noncomputable def Tryz.cF143 : Tr CF := .n (some (mkF Tryz.f143 (.e))) Tryz.cF271 Tryz.cF399
noncomputable def Tryz.cF142 : Tr CF := .n (some (mkF Tryz.f142 (.e))) Tryz.cF270 Tryz.cF398
noncomputable def Tryz.cF141 : Tr CF := .n (some (mkF Tryz.f141 (.e))) Tryz.cF269 Tryz.cF397
noncomputable def Tryz.cF140 : Tr CF := .n (some (mkF Tryz.f140 (.n none .e
 (.n none .e
 (.n none (.n (some ([⟨0, [], []⟩, ⟨1, [], []⟩, ⟨2, [], []⟩, ⟨3, [], []⟩, ⟨4, [], []⟩, ⟨5, [], []⟩])) .e
 .e)
 .e))))) Tryz.cF268 Tryz.cF396
noncomputable def Tryz.cF139 : Tr CF := .n (some (mkF Tryz.f139 (.e))) Tryz.cF267 Tryz.cF395
noncomputable def Tryz.cF138 : Tr CF := .n (some (mkF Tryz.f138 (.e))) Tryz.cF266 Tryz.cF394
noncomputable def Tryz.cF137 : Tr CF := .n (some (mkF Tryz.f137 (.e))) Tryz.cF265 Tryz.cF393
noncomputable def Tryz.cF136 : Tr CF := .n (some (mkF Tryz.f136 (.e))) Tryz.cF264 Tryz.cF392
noncomputable def Tryz.cF135 : Tr CF := .n (some (mkF Tryz.f135 (.e))) Tryz.cF263 Tryz.cF391
noncomputable def Tryz.cF134 : Tr CF := .n (some (mkF Tryz.f134 (.e))) Tryz.cF262 Tryz.cF390
noncomputable def Tryz.cF133 : Tr CF := .n (some (mkF Tryz.f133 (.e))) Tryz.cF261 Tryz.cF389
noncomputable def Tryz.cF132 : Tr CF := .n (some (mkF Tryz.f132 (.e))) Tryz.cF260 Tryz.cF388
noncomputable def Tryz.cF131 : Tr CF := .n (some (mkF Tryz.f131 (.e))) Tryz.cF259 Tryz.cF387
noncomputable def Tryz.cF130 : Tr CF := .n (some (mkF Tryz.f130 (.e))) Tryz.cF258 Tryz.cF386
noncomputable def Tryz.cF129 : Tr CF := .n (some (mkF Tryz.f129 (.e))) Tryz.cF257 Tryz.cF385
noncomputable def Tryz.cF128 : Tr CF := .n (some (mkF Tryz.f128 (.e))) Tryz.cF256 Tryz.cF384
noncomputable def Tryz.cF127 : Tr CF := .n (some (mkF Tryz.f127 (.e))) Tryz.cF255 Tryz.cF383
noncomputable def Tryz.cF126 : Tr CF := .n (some (mkF Tryz.f126 (.n none .e
 (.n none (.n none .e
 (.n (some ([⟨0, [], []⟩, ⟨1, [], []⟩, ⟨2, [], []⟩, ⟨3, [], []⟩, ⟨4, [], []⟩, ⟨5, [], []⟩, ⟨6, [], []⟩, ⟨7, [], []⟩, ⟨8, [], []⟩, ⟨9, [], []⟩, ⟨10, [], []⟩, ⟨11, [], []⟩, ⟨12, [], []⟩, ⟨13, [], []⟩, ⟨14, [], []⟩, ⟨15, [], []⟩, ⟨16, [], []⟩, ⟨17, [], []⟩, ⟨18, [], []⟩, ⟨19, [], []⟩, ⟨20, [], []⟩, ⟨21, [], []⟩])) .e
 .e))
 .e)))) Tryz.cF190 Tryz.cF254
noncomputable def Tryz.cF125 : Tr CF := .n (some (mkF Tryz.f125 (.e))) Tryz.cF189 Tryz.cF253
noncomputable def Tryz.cF124 : Tr CF := .n (some (mkF Tryz.f124 (.n none (.n none (.n none .e
 (.n none (.n (some ([⟨0, [], []⟩, ⟨1, [], []⟩, ⟨2, [], []⟩, ⟨3, [], []⟩, ⟨4, [], []⟩, ⟨5, [], []⟩, ⟨6, [5], []⟩, ⟨7, [], []⟩])) .e
 .e)
 .e))
 (.n none (.n none (.n (some ([⟨0, [], []⟩, ⟨1, [], []⟩, ⟨2, [], []⟩, ⟨3, [], []⟩, ⟨4, [], []⟩, ⟨5, [], []⟩, ⟨6, [], []⟩, ⟨7, [], []⟩])) .e
 .e)
 .e)
 .e))
 (.n none (.n none .e
 (.n (some ([⟨0, [], []⟩, ⟨1, [], []⟩, ⟨2, [], []⟩, ⟨3, [], []⟩, ⟨4, [], []⟩, ⟨5, [], []⟩, ⟨6, [], []⟩, ⟨7, [], []⟩, ⟨8, [], []⟩, ⟨9, [], []⟩, ⟨10, [], []⟩, ⟨11, [], []⟩])) .e
 .e))
 .e)))) Tryz.cF188 Tryz.cF252
noncomputable def Tryz.cF123 : Tr CF := .n (some (mkF Tryz.f123 (.e))) Tryz.cF187 Tryz.cF251
noncomputable def Tryz.cF122 : Tr CF := .n (some (mkF Tryz.f122 (.n none .e
 (.n none (.n none (.n (some ([⟨0, [], []⟩, ⟨1, [], []⟩, ⟨2, [], []⟩, ⟨3, [], []⟩, ⟨4, [], []⟩, ⟨5, [], []⟩, ⟨6, [], []⟩, ⟨7, [], []⟩, ⟨8, [], []⟩, ⟨9, [], []⟩, ⟨10, [], []⟩, ⟨11, [], []⟩, ⟨12, [], []⟩])) .e
 .e)
 .e)
 .e)))) Tryz.cF186 Tryz.cF250
noncomputable def Tryz.cF121 : Tr CF := .n (some (mkF Tryz.f121 (.e))) Tryz.cF185 Tryz.cF249
noncomputable def Tryz.cF120 : Tr CF := .n (some (mkF Tryz.f120 (.e))) Tryz.cF184 Tryz.cF248
noncomputable def Tryz.cF119 : Tr CF := .n (some (mkF Tryz.f119 (.e))) Tryz.cF183 Tryz.cF247
noncomputable def Tryz.cF118 : Tr CF := .n (some (mkF Tryz.f118 (.e))) Tryz.cF182 Tryz.cF246
noncomputable def Tryz.cF117 : Tr CF := .n (some (mkF Tryz.f117 (.e))) Tryz.cF181 Tryz.cF245
noncomputable def Tryz.cF116 : Tr CF := .n (some (mkF Tryz.f116 (.e))) Tryz.cF180 Tryz.cF244
noncomputable def Tryz.cF115 : Tr CF := .n (some (mkF Tryz.f115 (.e))) Tryz.cF179 Tryz.cF243
noncomputable def Tryz.cF114 : Tr CF := .n (some (mkF Tryz.f114 (.e))) Tryz.cF178 Tryz.cF242
noncomputable def Tryz.cF113 : Tr CF := .n (some (mkF Tryz.f113 (.e))) Tryz.cF177 Tryz.cF241
noncomputable def Tryz.cF112 : Tr CF := .n (some (mkF Tryz.f112 (.e))) Tryz.cF176 Tryz.cF240
noncomputable def Tryz.cF111 : Tr CF := .n (some (mkF Tryz.f111 (.e))) Tryz.cF175 Tryz.cF239
noncomputable def Tryz.cF110 : Tr CF := .n (some (mkF Tryz.f110 (.n none (.n none (.n (some ([⟨0, [], []⟩, ⟨1, [], []⟩, ⟨2, [], []⟩, ⟨4, [], []⟩, ⟨5, [], []⟩, ⟨6, [], []⟩, ⟨8, [], []⟩, ⟨9, [], []⟩, ⟨10, [], []⟩, ⟨12, [], []⟩, ⟨13, [], []⟩, ⟨14, [], []⟩, ⟨3, [], []⟩, ⟨7, [], []⟩, ⟨11, [], []⟩, ⟨15, [], []⟩, ⟨16, [], []⟩, ⟨17, [], []⟩, ⟨18, [], []⟩])) (.n none (.n (some ([⟨0, [], []⟩, ⟨1, [], []⟩, ⟨2, [], []⟩, ⟨3, [], []⟩, ⟨4, [], []⟩, ⟨5, [], []⟩, ⟨6, [], []⟩, ⟨7, [], []⟩, ⟨8, [], []⟩, ⟨9, [], []⟩, ⟨10, [], []⟩, ⟨11, [], []⟩, ⟨12, [], []⟩])) .e
 .e)
 (.n (some ([⟨0, [], []⟩, ⟨1, [], []⟩, ⟨2, [], []⟩, ⟨3, [], []⟩, ⟨4, [], []⟩, ⟨5, [], []⟩, ⟨6, [], []⟩, ⟨7, [], []⟩, ⟨8, [], []⟩, ⟨9, [], []⟩, ⟨10, [], []⟩, ⟨11, [], []⟩, ⟨12, [], []⟩])) .e
 .e))
 (.n (some ([⟨0, [], []⟩, ⟨1, [], []⟩, ⟨2, [], []⟩, ⟨3, [], []⟩, ⟨4, [], []⟩, ⟨5, [], []⟩, ⟨6, [], []⟩, ⟨9, [], []⟩, ⟨10, [], []⟩, ⟨7, [], []⟩, ⟨8, [], []⟩, ⟨11, [], []⟩, ⟨12, [], []⟩])) (.n (some ([⟨0, [], []⟩, ⟨1, [], []⟩, ⟨2, [], []⟩, ⟨3, [], []⟩, ⟨4, [], []⟩, ⟨5, [], []⟩, ⟨6, [], []⟩, ⟨9, [], []⟩, ⟨10, [], []⟩, ⟨7, [], []⟩, ⟨8, [], []⟩, ⟨11, [], []⟩, ⟨12, [], []⟩])) .e
 .e)
 .e))
 (.n (some ([⟨0, [], []⟩, ⟨1, [], []⟩, ⟨2, [], []⟩, ⟨3, [], []⟩, ⟨4, [], []⟩, ⟨5, [], []⟩, ⟨6, [], []⟩, ⟨7, [], []⟩, ⟨8, [], []⟩, ⟨9, [], []⟩, ⟨10, [], []⟩, ⟨11, [], []⟩, ⟨12, [], []⟩])) (.n (some ([⟨0, [], []⟩, ⟨1, [], []⟩, ⟨2, [], []⟩, ⟨3, [], []⟩, ⟨4, [], []⟩, ⟨5, [], []⟩, ⟨6, [], []⟩, ⟨7, [], []⟩, ⟨8, [], []⟩, ⟨9, [], []⟩, ⟨10, [], []⟩, ⟨11, [], []⟩, ⟨12, [], []⟩])) .e
 .e)
 (.n (some ([⟨0, [], []⟩, ⟨1, [], []⟩, ⟨2, [], []⟩, ⟨4, [], []⟩, ⟨5, [], []⟩, ⟨6, [], []⟩, ⟨8, [], []⟩, ⟨9, [], []⟩, ⟨10, [], []⟩, ⟨12, [], []⟩, ⟨13, [], []⟩, ⟨14, [], []⟩, ⟨3, [], []⟩, ⟨7, [], []⟩, ⟨11, [], []⟩, ⟨15, [], []⟩, ⟨16, [], []⟩, ⟨17, [], []⟩, ⟨18, [], []⟩])) (.n (some ([⟨0, [], []⟩, ⟨1, [], []⟩, ⟨2, [], []⟩, ⟨4, [], []⟩, ⟨5, [], []⟩, ⟨6, [], []⟩, ⟨7, [], []⟩, ⟨8, [], []⟩, ⟨9, [], []⟩, ⟨10, [], []⟩, ⟨12, [], []⟩, ⟨13, [], []⟩, ⟨14, [], []⟩, ⟨15, [], []⟩, ⟨16, [], []⟩, ⟨17, [], []⟩, ⟨18, [], []⟩, ⟨20, [], []⟩, ⟨21, [], []⟩, ⟨22, [], []⟩, ⟨3, [10, 18], []⟩, ⟨11, [18], []⟩, ⟨19, [], []⟩, ⟨23, [], []⟩, ⟨24, [], []⟩, ⟨25, [], []⟩, ⟨26, [], []⟩])) .e
 .e)
 (.n (some ([⟨0, [], []⟩, ⟨1, [], []⟩, ⟨2, [], []⟩, ⟨3, [], []⟩, ⟨4, [], []⟩, ⟨5, [], []⟩, ⟨6, [], []⟩, ⟨7, [], []⟩, ⟨8, [], []⟩, ⟨9, [], []⟩, ⟨10, [], []⟩])) .e
 .e))))
 (.n none (.n (some ([⟨0, [], []⟩, ⟨1, [], []⟩, ⟨2, [], []⟩, ⟨3, [], []⟩, ⟨4, [], []⟩, ⟨5, [], []⟩, ⟨6, [], []⟩, ⟨7, [], []⟩, ⟨8, [], []⟩, ⟨9, [], []⟩, ⟨10, [], []⟩, ⟨11, [], []⟩, ⟨12, [], []⟩])) (.n (some ([⟨0, [], []⟩, ⟨1, [], []⟩, ⟨2, [], []⟩, ⟨4, [], []⟩, ⟨5, [], []⟩, ⟨6, [], []⟩, ⟨8, [], []⟩, ⟨9, [], []⟩, ⟨10, [], []⟩, ⟨3, [], []⟩, ⟨7, [], []⟩, ⟨11, [], []⟩, ⟨12, [], []⟩, ⟨13, [], []⟩, ⟨14, [], []⟩])) (.n (some ([⟨0, [], []⟩, ⟨1, [], []⟩, ⟨2, [], []⟩, ⟨3, [], []⟩, ⟨4, [], []⟩, ⟨5, [], []⟩, ⟨6, [], []⟩, ⟨9, [], []⟩, ⟨10, [], []⟩, ⟨7, [], []⟩, ⟨8, [], []⟩, ⟨11, [], []⟩, ⟨12, [], []⟩])) .e
 .e)
 (.n (some ([⟨0, [], []⟩, ⟨1, [], []⟩, ⟨2, [], []⟩, ⟨3, [], []⟩, ⟨4, [], []⟩, ⟨5, [], []⟩, ⟨6, [], []⟩, ⟨9, [], []⟩, ⟨10, [], []⟩, ⟨7, [], []⟩, ⟨8, [], []⟩, ⟨11, [], []⟩, ⟨12, [], []⟩])) .e
 .e))
 (.n none .e
 (.n (some ([⟨0, [], []⟩, ⟨1, [], []⟩, ⟨2, [], []⟩, ⟨3, [], []⟩, ⟨4, [], []⟩, ⟨5, [], []⟩, ⟨6, [], []⟩, ⟨7, [], []⟩, ⟨8, [], []⟩, ⟨9, [], []⟩, ⟨10, [], []⟩, ⟨11, [], []⟩, ⟨12, [], []⟩, ⟨13, [], []⟩])) .e
 .e)))
 (.n (some ([⟨0, [], []⟩, ⟨1, [], []⟩, ⟨2, [], []⟩, ⟨3, [], []⟩, ⟨4, [], []⟩, ⟨5, [], []⟩, ⟨6, [], []⟩, ⟨9, [], []⟩, ⟨10, [], []⟩, ⟨7, [], []⟩, ⟨8, [], []⟩, ⟨11, [], []⟩, ⟨12, [], []⟩])) (.n (some ([⟨0, [], []⟩, ⟨1, [], []⟩, ⟨2, [], []⟩, ⟨3, [], []⟩, ⟨4, [], []⟩, ⟨5, [], []⟩, ⟨6, [], []⟩, ⟨7, [], []⟩, ⟨8, [], []⟩, ⟨9, [], []⟩, ⟨10, [], []⟩, ⟨11, [], []⟩, ⟨12, [], []⟩])) (.n (some ([⟨0, [], []⟩, ⟨1, [], []⟩, ⟨2, [], []⟩, ⟨3, [], []⟩, ⟨4, [], []⟩, ⟨5, [], []⟩, ⟨6, [], []⟩, ⟨7, [], []⟩, ⟨8, [], []⟩, ⟨9, [], []⟩, ⟨10, [], []⟩, ⟨11, [], []⟩, ⟨12, [], []⟩, ⟨14, [], []⟩, ⟨15, [], []⟩, ⟨16, [], []⟩, ⟨18, [], []⟩, ⟨19, [], []⟩, ⟨20, [], []⟩, ⟨13, [5], []⟩, ⟨17, [5], []⟩, ⟨21, [5], []⟩, ⟨22, [], []⟩, ⟨23, [], []⟩, ⟨24, [], []⟩, ⟨25, [], []⟩, ⟨26, [], []⟩, ⟨27, [], []⟩, ⟨28, [], []⟩])) .e
 .e)
 (.n (some ([⟨0, [], []⟩, ⟨1, [], []⟩, ⟨2, [], []⟩, ⟨3, [], []⟩, ⟨4, [], []⟩, ⟨5, [], []⟩, ⟨6, [], []⟩, ⟨8, [], []⟩, ⟨9, [], []⟩, ⟨10, [], []⟩, ⟨12, [], []⟩, ⟨13, [], []⟩, ⟨14, [], []⟩, ⟨7, [], []⟩, ⟨11, [], []⟩, ⟨15, [], []⟩, ⟨16, [], []⟩, ⟨17, [], []⟩, ⟨18, [], []⟩])) .e
 .e))
 (.n (some ([⟨0, [], []⟩, ⟨1, [], []⟩, ⟨2, [], []⟩, ⟨3, [], []⟩, ⟨4, [], []⟩, ⟨5, [], []⟩, ⟨6, [], []⟩, ⟨7, [], []⟩, ⟨8, [], []⟩, ⟨9, [], []⟩, ⟨10, [], []⟩, ⟨11, [], []⟩, ⟨12, [], []⟩])) (.n (some ([⟨0, [], []⟩, ⟨1, [], []⟩, ⟨2, [], []⟩, ⟨3, [], []⟩, ⟨4, [], []⟩, ⟨5, [], []⟩, ⟨6, [], []⟩, ⟨7, [], []⟩, ⟨8, [], []⟩, ⟨9, [], []⟩, ⟨10, [], []⟩, ⟨11, [], []⟩, ⟨12, [], []⟩])) .e
 .e)
 .e)))))) Tryz.cF174 Tryz.cF238
noncomputable def Tryz.cF109 : Tr CF := .n (some (mkF Tryz.f109 (.e))) Tryz.cF173 Tryz.cF237
noncomputable def Tryz.cF108 : Tr CF := .n (some (mkF Tryz.f108 (.e))) Tryz.cF172 Tryz.cF236
noncomputable def Tryz.cF107 : Tr CF := .n (some (mkF Tryz.f107 (.e))) Tryz.cF171 Tryz.cF235
noncomputable def Tryz.cF106 : Tr CF := .n (some (mkF Tryz.f106 (.e))) Tryz.cF170 Tryz.cF234
noncomputable def Tryz.cF105 : Tr CF := .n (some (mkF Tryz.f105 (.n none .e
 (.n (some ([⟨0, [], []⟩, ⟨1, [], []⟩, ⟨2, [], []⟩, ⟨3, [], []⟩, ⟨4, [], []⟩, ⟨5, [], []⟩, ⟨6, [], []⟩, ⟨7, [], []⟩, ⟨8, [], []⟩, ⟨9, [], []⟩, ⟨10, [], []⟩, ⟨11, [], []⟩])) .e
 .e)))) Tryz.cF169 Tryz.cF233
noncomputable def Tryz.cF104 : Tr CF := .n (some (mkF Tryz.f104 (.e))) Tryz.cF168 Tryz.cF232
noncomputable def Tryz.cF103 : Tr CF := .n (some (mkF Tryz.f103 (.n none (.n (some ([⟨0, [], []⟩, ⟨1, [], []⟩, ⟨2, [], []⟩, ⟨3, [], []⟩, ⟨4, [], []⟩, ⟨5, [], []⟩, ⟨6, [], []⟩, ⟨7, [], []⟩, ⟨8, [], []⟩, ⟨9, [], []⟩, ⟨10, [], []⟩, ⟨11, [], []⟩, ⟨12, [], []⟩, ⟨13, [], []⟩, ⟨14, [], []⟩, ⟨15, [], []⟩, ⟨16, [], []⟩, ⟨17, [], []⟩, ⟨18, [], []⟩])) .e
 .e)
 .e))) Tryz.cF167 Tryz.cF231
noncomputable def Tryz.cF102 : Tr CF := .n (some (mkF Tryz.f102 (.e))) Tryz.cF166 Tryz.cF230
noncomputable def Tryz.cF101 : Tr CF := .n (some (mkF Tryz.f101 (.e))) Tryz.cF165 Tryz.cF229
noncomputable def Tryz.cF100 : Tr CF := .n (some (mkF Tryz.f100 (.n none (.n (some ([⟨0, [], []⟩, ⟨1, [], []⟩, ⟨2, [], []⟩, ⟨3, [], []⟩, ⟨4, [], []⟩, ⟨5, [], []⟩, ⟨6, [], []⟩, ⟨7, [], []⟩, ⟨8, [], []⟩, ⟨9, [], []⟩])) (.n none (.n (some ([⟨0, [], []⟩, ⟨1, [], []⟩, ⟨2, [], []⟩, ⟨3, [], []⟩, ⟨4, [], []⟩, ⟨5, [], []⟩, ⟨6, [], []⟩, ⟨7, [], []⟩, ⟨8, [], []⟩, ⟨9, [], []⟩, ⟨10, [], []⟩, ⟨11, [], []⟩, ⟨12, [], []⟩, ⟨13, [], []⟩, ⟨14, [], []⟩, ⟨15, [], []⟩, ⟨16, [], []⟩, ⟨17, [], []⟩, ⟨18, [], []⟩, ⟨19, [], []⟩])) (.n (some ([⟨0, [], []⟩, ⟨1, [], []⟩, ⟨2, [], []⟩, ⟨3, [], []⟩, ⟨4, [], []⟩, ⟨5, [], []⟩, ⟨6, [], []⟩, ⟨7, [], []⟩, ⟨8, [], []⟩, ⟨9, [], []⟩, ⟨10, [], []⟩, ⟨11, [], []⟩, ⟨12, [], []⟩])) .e
 .e)
 .e)
 .e)
 .e)
 (.n none (.n none (.n none (.n (some ([⟨0, [], []⟩, ⟨1, [], []⟩, ⟨2, [], []⟩, ⟨3, [], []⟩, ⟨4, [], []⟩, ⟨5, [], []⟩, ⟨6, [], []⟩, ⟨7, [], []⟩, ⟨8, [], []⟩, ⟨9, [], []⟩, ⟨10, [], []⟩, ⟨11, [], []⟩, ⟨12, [], []⟩])) .e
 .e)
 .e)
 .e)
 .e)))) Tryz.cF164 Tryz.cF228
noncomputable def Tryz.cF99 : Tr CF := .n (some (mkF Tryz.f99 (.n none (.n none (.n none .e
 (.n (some ([⟨0, [], []⟩, ⟨1, [], []⟩, ⟨2, [], []⟩, ⟨3, [], []⟩, ⟨4, [], []⟩, ⟨5, [], []⟩, ⟨6, [], []⟩, ⟨7, [], []⟩, ⟨8, [], []⟩])) .e
 .e))
 .e)
 .e))) Tryz.cF163 Tryz.cF227
noncomputable def Tryz.cF98 : Tr CF := .n (some (mkF Tryz.f98 (.n none .e
 (.n none (.n none .e
 (.n (some ([⟨0, [], []⟩, ⟨1, [], []⟩, ⟨2, [], []⟩, ⟨3, [], []⟩, ⟨4, [], []⟩, ⟨5, [], []⟩, ⟨6, [], []⟩, ⟨7, [3, 5], []⟩, ⟨8, [], []⟩, ⟨9, [], []⟩])) .e
 .e))
 .e)))) Tryz.cF162 Tryz.cF226
noncomputable def Tryz.cF97 : Tr CF := .n (some (mkF Tryz.f97 (.n none (.n none .e
 (.n (some ([⟨0, [], []⟩, ⟨1, [], []⟩, ⟨2, [], []⟩, ⟨3, [], []⟩, ⟨4, [], []⟩, ⟨5, [], []⟩, ⟨6, [], []⟩, ⟨7, [], []⟩, ⟨8, [], []⟩, ⟨10, [], []⟩, ⟨11, [], []⟩, ⟨9, [11], []⟩, ⟨12, [], []⟩, ⟨13, [], []⟩, ⟨14, [], []⟩, ⟨15, [], []⟩])) .e
 .e))
 (.n none (.n none (.n (some ([⟨0, [], []⟩, ⟨1, [], []⟩, ⟨2, [], []⟩, ⟨5, [], []⟩, ⟨6, [], []⟩, ⟨10, [], []⟩, ⟨11, [], []⟩, ⟨15, [], []⟩, ⟨16, [], []⟩, ⟨20, [], []⟩, ⟨21, [], []⟩, ⟨3, [6, 11, 16, 21], []⟩, ⟨4, [], []⟩, ⟨7, [11, 16, 21], []⟩, ⟨8, [], []⟩, ⟨9, [], []⟩, ⟨12, [16, 21], []⟩, ⟨13, [], []⟩, ⟨14, [], []⟩, ⟨17, [21], []⟩, ⟨18, [], []⟩, ⟨19, [], []⟩, ⟨22, [], []⟩, ⟨23, [], []⟩, ⟨24, [], []⟩, ⟨25, [], []⟩, ⟨26, [], []⟩])) .e
 .e)
 .e)
 .e)))) Tryz.cF161 Tryz.cF225
noncomputable def Tryz.cF96 : Tr CF := .n (some (mkF Tryz.f96 (.e))) Tryz.cF160 Tryz.cF224
noncomputable def Tryz.cF95 : Tr CF := .n (some (mkF Tryz.f95 (.n none (.n (some ([⟨0, [], []⟩, ⟨1, [], []⟩, ⟨2, [], []⟩, ⟨3, [], []⟩, ⟨5, [], []⟩, ⟨6, [], []⟩, ⟨7, [], []⟩, ⟨8, [], []⟩, ⟨9, [], []⟩, ⟨4, [8, 9], []⟩, ⟨10, [], []⟩, ⟨11, [], []⟩])) .e
 .e)
 .e))) Tryz.cF159 Tryz.cF223
noncomputable def Tryz.cF94 : Tr CF := .n (some (mkF Tryz.f94 (.e))) Tryz.cF158 Tryz.cF222
noncomputable def Tryz.cF93 : Tr CF := .n (some (mkF Tryz.f93 (.e))) Tryz.cF157 Tryz.cF221
noncomputable def Tryz.cF92 : Tr CF := .n (some (mkF Tryz.f92 (.e))) Tryz.cF156 Tryz.cF220
noncomputable def Tryz.cF91 : Tr CF := .n (some (mkF Tryz.f91 (.n none .e
 (.n none (.n none (.n none (.n (some ([⟨0, [], []⟩, ⟨1, [], []⟩, ⟨2, [], []⟩, ⟨3, [], []⟩, ⟨4, [], []⟩, ⟨5, [], []⟩, ⟨6, [], []⟩, ⟨7, [], []⟩, ⟨8, [], []⟩, ⟨9, [], []⟩, ⟨10, [2, 4, 7], []⟩, ⟨11, [], []⟩, ⟨12, [], []⟩, ⟨13, [], []⟩])) .e
 .e)
 .e)
 .e)
 (.n none (.n (some ([⟨0, [], []⟩, ⟨1, [], []⟩, ⟨2, [], []⟩, ⟨3, [], []⟩, ⟨4, [], []⟩, ⟨5, [], []⟩, ⟨6, [], []⟩, ⟨7, [], []⟩, ⟨8, [], []⟩, ⟨9, [1, 3, 6], []⟩, ⟨10, [], []⟩, ⟨11, [], []⟩])) .e
 .e)
 .e))))) Tryz.cF155 Tryz.cF219
noncomputable def Tryz.cF90 : Tr CF := .n (some (mkF Tryz.f90 (.e))) Tryz.cF154 Tryz.cF218
noncomputable def Tryz.cF89 : Tr CF := .n (some (mkF Tryz.f89 (.n none (.n none (.n none (.n (some ([⟨0, [], []⟩, ⟨2, [], []⟩, ⟨4, [], []⟩, ⟨1, [2, 4], []⟩, ⟨3, [4], []⟩, ⟨5, [], []⟩, ⟨6, [], []⟩, ⟨7, [], []⟩, ⟨8, [], []⟩])) .e
 .e)
 .e)
 (.n none (.n (some ([⟨0, [], []⟩, ⟨2, [], []⟩, ⟨4, [], []⟩, ⟨1, [2, 4], []⟩, ⟨6, [], []⟩, ⟨3, [4], []⟩, ⟨5, [], []⟩, ⟨7, [], []⟩, ⟨8, [], []⟩, ⟨9, [], []⟩, ⟨10, [], []⟩, ⟨11, [], []⟩])) .e
 .e)
 .e))
 (.n none (.n (some ([⟨0, [], []⟩, ⟨1, [], []⟩, ⟨2, [], []⟩, ⟨3, [], []⟩, ⟨4, [], []⟩, ⟨5, [], []⟩, ⟨6, [], []⟩, ⟨7, [0], []⟩, ⟨8, [], []⟩, ⟨9, [], []⟩, ⟨10, [], []⟩])) .e
 .e)
 (.n none (.n (some ([⟨0, [], []⟩, ⟨2, [], []⟩, ⟨4, [], []⟩, ⟨1, [2, 4], []⟩, ⟨6, [], []⟩, ⟨3, [4], []⟩, ⟨5, [], []⟩, ⟨7, [], []⟩, ⟨8, [], []⟩, ⟨9, [], []⟩, ⟨10, [], []⟩, ⟨11, [], []⟩])) .e
 .e)
 .e))))) Tryz.cF153 Tryz.cF217
noncomputable def Tryz.cF88 : Tr CF := .n (some (mkF Tryz.f88 (.e))) Tryz.cF152 Tryz.cF216
noncomputable def Tryz.cF87 : Tr CF := .n (some (mkF Tryz.f87 (.e))) Tryz.cF151 Tryz.cF215
noncomputable def Tryz.cF86 : Tr CF := .n (some (mkF Tryz.f86 (.e))) Tryz.cF150 Tryz.cF214
noncomputable def Tryz.cF85 : Tr CF := .n (some (mkF Tryz.f85 (.n none (.n none (.n none .e
 (.n (some ([⟨0, [], []⟩, ⟨1, [], []⟩, ⟨2, [], []⟩, ⟨3, [], []⟩, ⟨4, [], []⟩])) .e
 .e))
 .e)
 (.n none (.n none .e
 (.n (some ([⟨0, [], []⟩, ⟨1, [], []⟩, ⟨2, [], []⟩, ⟨3, [], []⟩, ⟨4, [], []⟩, ⟨5, [], []⟩, ⟨6, [3], []⟩, ⟨7, [], []⟩, ⟨8, [], []⟩, ⟨9, [], []⟩])) .e
 .e))
 (.n none (.n (some ([⟨0, [], []⟩, ⟨1, [], []⟩, ⟨2, [], []⟩, ⟨3, [], []⟩, ⟨4, [], []⟩, ⟨5, [], []⟩, ⟨6, [], []⟩, ⟨7, [], []⟩])) .e
 .e)
 .e))))) Tryz.cF149 Tryz.cF213
noncomputable def Tryz.cF84 : Tr CF := .n (some (mkF Tryz.f84 (.n none (.n none (.n none (.n none (.n (some ([⟨0, [], []⟩, ⟨1, [], []⟩, ⟨2, [], []⟩, ⟨3, [0], []⟩, ⟨4, [], []⟩, ⟨5, [], []⟩])) .e
 .e)
 .e)
 .e)
 .e)
 .e))) Tryz.cF148 Tryz.cF212
noncomputable def Tryz.cF83 : Tr CF := .n (some (mkF Tryz.f83 (.e))) Tryz.cF147 Tryz.cF211
noncomputable def Tryz.cF82 : Tr CF := .n (some (mkF Tryz.f82 (.n none (.n none .e
 (.n none .e
 (.n (some ([⟨0, [], []⟩, ⟨1, [], []⟩, ⟨2, [], []⟩, ⟨3, [], []⟩, ⟨4, [], []⟩, ⟨5, [], []⟩, ⟨6, [], []⟩, ⟨7, [], []⟩, ⟨8, [], []⟩, ⟨9, [], []⟩, ⟨10, [5], []⟩, ⟨11, [5], []⟩, ⟨12, [], []⟩, ⟨13, [], []⟩, ⟨14, [], []⟩, ⟨15, [], []⟩, ⟨16, [], []⟩, ⟨17, [], []⟩])) .e
 .e)))
 (.n (some ([⟨0, [], []⟩, ⟨1, [], []⟩, ⟨2, [], []⟩, ⟨3, [], []⟩, ⟨4, [], []⟩, ⟨5, [], []⟩, ⟨6, [], []⟩, ⟨7, [], []⟩, ⟨8, [], []⟩, ⟨9, [], []⟩, ⟨10, [], []⟩, ⟨11, [], []⟩, ⟨12, [], []⟩])) (.n (some ([⟨0, [], []⟩, ⟨1, [], []⟩, ⟨2, [], []⟩, ⟨3, [], []⟩, ⟨4, [], []⟩, ⟨5, [], []⟩, ⟨6, [], []⟩, ⟨7, [], []⟩, ⟨8, [], []⟩, ⟨9, [], []⟩, ⟨10, [], []⟩, ⟨11, [], []⟩, ⟨12, [], []⟩])) .e
 .e)
 (.n (some ([⟨0, [], []⟩, ⟨1, [], []⟩, ⟨2, [], []⟩, ⟨3, [], []⟩, ⟨4, [], []⟩, ⟨5, [], []⟩, ⟨6, [], []⟩, ⟨7, [], []⟩, ⟨8, [], []⟩, ⟨9, [], []⟩, ⟨10, [], []⟩, ⟨11, [], []⟩, ⟨12, [], []⟩])) .e
 .e))))) Tryz.cF146 Tryz.cF210
noncomputable def Tryz.cF81 : Tr CF := .n (some (mkF Tryz.f81 (.n (some ([⟨0, [], []⟩, ⟨1, [], []⟩, ⟨2, [], []⟩, ⟨3, [], []⟩, ⟨4, [], []⟩, ⟨5, [], []⟩, ⟨6, [], []⟩, ⟨7, [], []⟩, ⟨8, [], []⟩, ⟨9, [], []⟩, ⟨10, [], []⟩, ⟨11, [], []⟩, ⟨12, [], []⟩])) (.n (some ([⟨0, [], []⟩, ⟨1, [], []⟩, ⟨2, [], []⟩, ⟨3, [], []⟩, ⟨4, [], []⟩, ⟨5, [], []⟩, ⟨6, [], []⟩, ⟨7, [], []⟩, ⟨8, [], []⟩, ⟨9, [], []⟩, ⟨10, [], []⟩, ⟨11, [], []⟩, ⟨12, [], []⟩])) (.n (some ([⟨0, [], []⟩, ⟨1, [], []⟩, ⟨2, [], []⟩, ⟨3, [], []⟩, ⟨4, [], []⟩, ⟨5, [], []⟩, ⟨6, [], []⟩, ⟨7, [], []⟩, ⟨8, [], []⟩, ⟨9, [], []⟩, ⟨10, [], []⟩, ⟨11, [], []⟩, ⟨12, [], []⟩])) .e
 .e)
 .e)
 (.n (some ([⟨0, [], []⟩, ⟨1, [], []⟩, ⟨2, [], []⟩, ⟨3, [], []⟩, ⟨4, [], []⟩, ⟨5, [], []⟩, ⟨6, [], []⟩, ⟨7, [], []⟩, ⟨8, [], []⟩, ⟨9, [], []⟩, ⟨10, [], []⟩, ⟨11, [], []⟩, ⟨12, [], []⟩])) .e
 (.n none (.n (some ([⟨0, [], []⟩, ⟨1, [], []⟩, ⟨2, [], []⟩, ⟨3, [], []⟩, ⟨4, [], []⟩, ⟨5, [], []⟩, ⟨6, [], []⟩, ⟨7, [], []⟩, ⟨8, [], []⟩, ⟨9, [], []⟩, ⟨10, [], []⟩, ⟨11, [], []⟩, ⟨12, [], []⟩])) .e
 .e)
 .e))))) Tryz.cF145 Tryz.cF209
noncomputable def Tryz.cF80 : Tr CF := .n (some (mkF Tryz.f80 (.e))) Tryz.cF144 Tryz.cF208
noncomputable def Tryz.cF79 : Tr CF := .n (some (mkF Tryz.f79 (.e))) Tryz.cF143 Tryz.cF207
noncomputable def Tryz.cF78 : Tr CF := .n (some (mkF Tryz.f78 (.e))) Tryz.cF142 Tryz.cF206
noncomputable def Tryz.cF77 : Tr CF := .n (some (mkF Tryz.f77 (.e))) Tryz.cF141 Tryz.cF205
noncomputable def Tryz.cF76 : Tr CF := .n (some (mkF Tryz.f76 (.n none (.n none .e
 (.n (some ([⟨0, [], []⟩, ⟨1, [], []⟩, ⟨2, [], []⟩, ⟨3, [], []⟩, ⟨4, [], []⟩, ⟨5, [], []⟩, ⟨6, [], []⟩, ⟨7, [], []⟩, ⟨8, [], []⟩, ⟨9, [], []⟩])) .e
 .e))
 .e))) Tryz.cF140 Tryz.cF204
noncomputable def Tryz.cF75 : Tr CF := .n (some (mkF Tryz.f75 (.e))) Tryz.cF139 Tryz.cF203
noncomputable def Tryz.cF74 : Tr CF := .n (some (mkF Tryz.f74 (.e))) Tryz.cF138 Tryz.cF202
noncomputable def Tryz.cF73 : Tr CF := .n (some (mkF Tryz.f73 (.e))) Tryz.cF137 Tryz.cF201
noncomputable def Tryz.cF72 : Tr CF := .n (some (mkF Tryz.f72 (.e))) Tryz.cF136 Tryz.cF200
noncomputable def Tryz.cF71 : Tr CF := .n (some (mkF Tryz.f71 (.e))) Tryz.cF135 Tryz.cF199
noncomputable def Tryz.cF70 : Tr CF := .n (some (mkF Tryz.f70 (.e))) Tryz.cF134 Tryz.cF198
noncomputable def Tryz.cF69 : Tr CF := .n (some (mkF Tryz.f69 (.e))) Tryz.cF133 Tryz.cF197
noncomputable def Tryz.cF68 : Tr CF := .n (some (mkF Tryz.f68 (.e))) Tryz.cF132 Tryz.cF196
noncomputable def Tryz.cF67 : Tr CF := .n (some (mkF Tryz.f67 (.e))) Tryz.cF131 Tryz.cF195
noncomputable def Tryz.cF66 : Tr CF := .n (some (mkF Tryz.f66 (.e))) Tryz.cF130 Tryz.cF194
noncomputable def Tryz.cF65 : Tr CF := .n (some (mkF Tryz.f65 (.n none (.n none .e
 (.n none .e
 (.n (some ([⟨0, [], []⟩, ⟨1, [], []⟩, ⟨2, [], []⟩, ⟨3, [], []⟩, ⟨7, [], []⟩, ⟨8, [], []⟩, ⟨9, [], []⟩, ⟨10, [], []⟩, ⟨4, [10], []⟩, ⟨5, [10], []⟩, ⟨6, [], []⟩, ⟨11, [], []⟩, ⟨12, [], []⟩, ⟨13, [], []⟩, ⟨14, [], []⟩, ⟨15, [], []⟩, ⟨16, [], []⟩, ⟨17, [], []⟩])) .e
 .e)))
 .e))) Tryz.cF129 Tryz.cF193
noncomputable def Tryz.cF64 : Tr CF := .n (some (mkF Tryz.f64 (.n none (.n none .e
 (.n none .e
 (.n (some ([⟨0, [], []⟩, ⟨1, [], []⟩, ⟨2, [], []⟩, ⟨3, [], []⟩, ⟨5, [], []⟩, ⟨6, [], []⟩, ⟨7, [], []⟩, ⟨8, [], []⟩, ⟨9, [], []⟩, ⟨10, [], []⟩, ⟨11, [], []⟩, ⟨4, [5, 6, 11], []⟩, ⟨12, [], []⟩, ⟨13, [], []⟩, ⟨14, [], []⟩, ⟨15, [], []⟩, ⟨16, [], []⟩, ⟨17, [], []⟩])) .e
 .e)))
 (.n none (.n none .e
 (.n none (.n (some ([⟨0, [], []⟩, ⟨1, [], []⟩, ⟨2, [], []⟩, ⟨3, [], []⟩, ⟨4, [], []⟩, ⟨5, [], []⟩, ⟨6, [], []⟩, ⟨7, [], []⟩, ⟨8, [], []⟩, ⟨9, [], []⟩, ⟨10, [], []⟩, ⟨11, [], []⟩, ⟨12, [], []⟩])) .e
 .e)
 .e))
 .e)))) Tryz.cF128 Tryz.cF192
noncomputable def Tryz.cF63 : Tr CF := .n (some (mkF Tryz.f63 (.n none .e
 (.n none (.n none (.n (some ([⟨0, [], []⟩, ⟨1, [], []⟩, ⟨2, [], []⟩, ⟨3, [], []⟩, ⟨4, [], []⟩, ⟨5, [], []⟩, ⟨6, [], []⟩, ⟨7, [], []⟩, ⟨8, [], []⟩, ⟨9, [], []⟩, ⟨10, [], []⟩])) .e
 .e)
 .e)
 .e)))) Tryz.cF127 Tryz.cF191
noncomputable def Tryz.cF62 : Tr CF := .n (some (mkF Tryz.f62 (.e))) Tryz.cF94 Tryz.cF126
noncomputable def Tryz.cF61 : Tr CF := .n (some (mkF Tryz.f61 (.n none (.n none (.n (some ([⟨0, [], []⟩, ⟨1, [], []⟩, ⟨2, [], []⟩, ⟨3, [], []⟩, ⟨4, [], []⟩, ⟨5, [], []⟩, ⟨6, [], []⟩])) .e
 .e)
 .e)
 (.n none (.n (some ([⟨0, [], []⟩, ⟨1, [], []⟩, ⟨2, [], []⟩, ⟨3, [], []⟩, ⟨4, [], []⟩, ⟨5, [], []⟩, ⟨6, [], []⟩, ⟨7, [], []⟩, ⟨8, [], []⟩, ⟨9, [], []⟩, ⟨10, [], []⟩])) .e
 .e)
 .e)))) Tryz.cF93 Tryz.cF125
noncomputable def Tryz.cF60 : Tr CF := .n (some (mkF Tryz.f60 (.e))) Tryz.cF92 Tryz.cF124
noncomputable def Tryz.cF59 : Tr CF := .n (some (mkF Tryz.f59 (.e))) Tryz.cF91 Tryz.cF123
noncomputable def Tryz.cF58 : Tr CF := .n (some (mkF Tryz.f58 (.e))) Tryz.cF90 Tryz.cF122
noncomputable def Tryz.cF57 : Tr CF := .n (some (mkF Tryz.f57 (.e))) Tryz.cF89 Tryz.cF121
noncomputable def Tryz.cF56 : Tr CF := .n (some (mkF Tryz.f56 (.e))) Tryz.cF88 Tryz.cF120
noncomputable def Tryz.cF55 : Tr CF := .n (some (mkF Tryz.f55 (.e))) Tryz.cF87 Tryz.cF119
noncomputable def Tryz.cF54 : Tr CF := .n (some (mkF Tryz.f54 (.e))) Tryz.cF86 Tryz.cF118
noncomputable def Tryz.cF53 : Tr CF := .n (some (mkF Tryz.f53 (.e))) Tryz.cF85 Tryz.cF117
noncomputable def Tryz.cF52 : Tr CF := .n (some (mkF Tryz.f52 (.n none (.n none (.n none (.n none .e
 (.n (some ([⟨0, [], []⟩, ⟨1, [], []⟩, ⟨2, [], []⟩, ⟨4, [], []⟩, ⟨5, [], []⟩, ⟨7, [], []⟩, ⟨8, [], []⟩, ⟨3, [5, 8], []⟩, ⟨6, [8], []⟩, ⟨9, [], []⟩, ⟨10, [], []⟩, ⟨11, [], []⟩])) .e
 .e))
 (.n none (.n (some ([⟨0, [], []⟩, ⟨1, [], []⟩, ⟨2, [], []⟩, ⟨3, [], []⟩, ⟨4, [], []⟩, ⟨5, [], []⟩, ⟨6, [], []⟩, ⟨7, [], []⟩, ⟨8, [], []⟩, ⟨9, [], []⟩, ⟨10, [], []⟩, ⟨11, [], []⟩, ⟨12, [], []⟩, ⟨13, [], []⟩, ⟨14, [], []⟩, ⟨15, [], []⟩, ⟨16, [], []⟩, ⟨18, [], []⟩, ⟨19, [], []⟩, ⟨17, [2, 4, 7, 9, 11, 14, 19], []⟩, ⟨20, [2, 4, 7, 9, 11, 14], []⟩, ⟨21, [], []⟩, ⟨22, [], []⟩])) .e
 .e)
 .e))
 (.n none (.n (some ([⟨0, [], []⟩, ⟨1, [], []⟩, ⟨2, [], []⟩, ⟨3, [], []⟩, ⟨4, [], []⟩, ⟨5, [], []⟩, ⟨6, [], []⟩, ⟨7, [], []⟩, ⟨8, [], []⟩, ⟨9, [], []⟩, ⟨10, [], []⟩, ⟨11, [], []⟩, ⟨12, [], []⟩, ⟨13, [], []⟩, ⟨14, [], []⟩, ⟨15, [], []⟩, ⟨16, [], []⟩])) .e
 .e)
 .e))
 (.n none (.n (some ([⟨0, [], []⟩, ⟨1, [], []⟩, ⟨2, [], []⟩, ⟨3, [], []⟩, ⟨4, [], []⟩, ⟨5, [], []⟩, ⟨6, [], []⟩, ⟨7, [], []⟩, ⟨8, [], []⟩, ⟨9, [], []⟩, ⟨11, [], []⟩, ⟨12, [], []⟩, ⟨14, [], []⟩, ⟨15, [], []⟩, ⟨10, [2, 4, 7, 12, 15], []⟩, ⟨13, [2, 4, 7, 15], []⟩, ⟨16, [2, 4, 7], []⟩, ⟨17, [], []⟩, ⟨18, [], []⟩])) .e
 (.n none .e
 (.n (some ([⟨0, [], []⟩, ⟨1, [], []⟩, ⟨2, [], []⟩, ⟨3, [], []⟩, ⟨4, [], []⟩, ⟨6, [], []⟩, ⟨7, [], []⟩, ⟨9, [], []⟩, ⟨10, [], []⟩, ⟨12, [], []⟩, ⟨13, [], []⟩, ⟨15, [], []⟩, ⟨5, [2, 7, 10, 13], []⟩, ⟨8, [2, 10, 13], []⟩, ⟨11, [2, 13], []⟩, ⟨14, [2], []⟩, ⟨16, [], []⟩, ⟨17, [], []⟩])) .e
 .e)))
 (.n none .e
 (.n (some ([⟨0, [], []⟩, ⟨1, [], []⟩, ⟨2, [], []⟩, ⟨3, [], []⟩, ⟨4, [], []⟩, ⟨5, [], []⟩, ⟨6, [], []⟩, ⟨7, [], []⟩, ⟨8, [], []⟩, ⟨9, [], []⟩, ⟨10, [], []⟩, ⟨11, [], []⟩, ⟨12, [], []⟩, ⟨13, [], []⟩, ⟨14, [], []⟩, ⟨15, [], []⟩, ⟨16, [], []⟩, ⟨17, [], []⟩, ⟨18, [], []⟩, ⟨19, [], []⟩, ⟨20, [], []⟩, ⟨21, [], []⟩, ⟨22, [], []⟩, ⟨23, [], []⟩])) .e
 .e)))))) Tryz.cF84 Tryz.cF116
noncomputable def Tryz.cF51 : Tr CF := .n (some (mkF Tryz.f51 (.n none (.n none (.n none (.n none (.n (some ([⟨0, [], []⟩, ⟨1, [], []⟩, ⟨2, [], []⟩, ⟨3, [], []⟩, ⟨4, [], []⟩, ⟨6, [], []⟩, ⟨7, [], []⟩, ⟨9, [], []⟩, ⟨10, [], []⟩, ⟨5, [2, 7, 10], []⟩, ⟨8, [2, 10], []⟩, ⟨11, [2], []⟩, ⟨12, [], []⟩, ⟨13, [], []⟩])) .e
 .e)
 (.n (some ([⟨0, [], []⟩, ⟨1, [], []⟩, ⟨2, [], []⟩, ⟨3, [], []⟩, ⟨4, [], []⟩, ⟨5, [], []⟩, ⟨6, [], []⟩, ⟨7, [], []⟩, ⟨8, [], []⟩, ⟨9, [], []⟩, ⟨11, [], []⟩, ⟨10, [2, 4, 7], []⟩, ⟨12, [], []⟩, ⟨13, [], []⟩])) .e
 .e))
 .e)
 .e)
 (.n none (.n (some ([⟨0, [], []⟩, ⟨1, [], []⟩, ⟨2, [], []⟩, ⟨3, [], []⟩, ⟨4, [], []⟩, ⟨6, [], []⟩, ⟨7, [], []⟩, ⟨9, [], []⟩, ⟨10, [], []⟩, ⟨5, [2, 7, 10], []⟩, ⟨8, [2, 10], []⟩, ⟨11, [2], []⟩, ⟨12, [], []⟩, ⟨13, [], []⟩])) (.n none (.n none (.n (some ([⟨0, [], []⟩, ⟨1, [], []⟩, ⟨2, [], []⟩, ⟨3, [], []⟩, ⟨4, [], []⟩, ⟨5, [], []⟩, ⟨6, [], []⟩, ⟨7, [], []⟩, ⟨8, [], []⟩, ⟨9, [], []⟩, ⟨11, [], []⟩, ⟨12, [], []⟩, ⟨14, [], []⟩, ⟨10, [2, 4, 7, 12, 14], []⟩, ⟨13, [2, 4, 7, 14], []⟩, ⟨15, [2, 4, 7], []⟩, ⟨16, [], []⟩, ⟨17, [], []⟩])) .e
 .e)
 .e)
 .e)
 (.n none .e
 (.n (some ([⟨0, [], []⟩, ⟨1, [], []⟩, ⟨2, [], []⟩, ⟨3, [], []⟩, ⟨4, [], []⟩, ⟨5, [], []⟩, ⟨6, [], []⟩, ⟨7, [], []⟩, ⟨8, [], []⟩, ⟨9, [], []⟩, ⟨10, [], []⟩, ⟨11, [], []⟩, ⟨12, [], []⟩, ⟨13, [], []⟩, ⟨14, [], []⟩, ⟨15, [], []⟩, ⟨16, [], []⟩, ⟨17, [], []⟩, ⟨18, [], []⟩, ⟨19, [2, 4, 6, 9, 11, 13, 16], []⟩, ⟨20, [], []⟩, ⟨21, [], []⟩])) .e
 .e)))
 (.n none (.n (some ([⟨0, [], []⟩, ⟨1, [], []⟩, ⟨2, [], []⟩, ⟨3, [], []⟩, ⟨4, [], []⟩, ⟨5, [], []⟩, ⟨6, [2], []⟩, ⟨7, [], []⟩, ⟨8, [], []⟩])) .e
 .e)
 .e))))) Tryz.cF83 Tryz.cF115
noncomputable def Tryz.cF50 : Tr CF := .n (some (mkF Tryz.f50 (.n none (.n (some ([⟨0, [], []⟩, ⟨1, [], []⟩, ⟨2, [], []⟩, ⟨3, [], []⟩, ⟨4, [], []⟩, ⟨5, [], []⟩, ⟨6, [], []⟩, ⟨7, [], []⟩, ⟨8, [], []⟩, ⟨9, [], []⟩, ⟨10, [], []⟩, ⟨11, [], []⟩, ⟨12, [4, 5, 7, 8], []⟩, ⟨13, [7, 8], []⟩, ⟨14, [], []⟩])) .e
 .e)
 .e))) Tryz.cF82 Tryz.cF114
noncomputable def Tryz.cF49 : Tr CF := .n (some (mkF Tryz.f49 (.e))) Tryz.cF81 Tryz.cF113
noncomputable def Tryz.cF48 : Tr CF := .n (some (mkF Tryz.f48 (.e))) Tryz.cF80 Tryz.cF112
noncomputable def Tryz.cF47 : Tr CF := .n (some (mkF Tryz.f47 (.e))) Tryz.cF79 Tryz.cF111
noncomputable def Tryz.cF46 : Tr CF := .n (some (mkF Tryz.f46 (.e))) Tryz.cF78 Tryz.cF110
noncomputable def Tryz.cF45 : Tr CF := .n (some (mkF Tryz.f45 (.n none (.n (some ([⟨0, [], []⟩, ⟨1, [], []⟩, ⟨2, [], []⟩, ⟨3, [], []⟩, ⟨4, [], []⟩, ⟨5, [], []⟩, ⟨6, [], []⟩, ⟨7, [], []⟩, ⟨8, [], []⟩, ⟨9, [], []⟩, ⟨10, [], []⟩, ⟨11, [], []⟩, ⟨12, [], []⟩, ⟨13, [0, 3], []⟩, ⟨14, [], []⟩, ⟨15, [], []⟩, ⟨16, [], []⟩, ⟨17, [], []⟩, ⟨18, [], []⟩, ⟨19, [], []⟩, ⟨20, [], []⟩])) .e
 .e)
 .e))) Tryz.cF77 Tryz.cF109
noncomputable def Tryz.cF44 : Tr CF := .n (some (mkF Tryz.f44 (.n none .e
 (.n none .e
 (.n none (.n (some ([⟨0, [], []⟩, ⟨1, [], []⟩, ⟨2, [], []⟩, ⟨3, [], []⟩, ⟨4, [], []⟩, ⟨5, [], []⟩, ⟨6, [], []⟩, ⟨7, [], []⟩, ⟨8, [], []⟩, ⟨9, [], []⟩, ⟨11, [], []⟩, ⟨12, [], []⟩, ⟨13, [], []⟩, ⟨14, [], []⟩, ⟨15, [], []⟩, ⟨16, [], []⟩, ⟨17, [], []⟩, ⟨10, [4, 11, 17], []⟩, ⟨18, [], []⟩, ⟨19, [], []⟩, ⟨20, [], []⟩, ⟨21, [], []⟩, ⟨22, [], []⟩, ⟨23, [], []⟩])) .e
 .e)
 .e))))) Tryz.cF76 Tryz.cF108
noncomputable def Tryz.cF43 : Tr CF := .n (some (mkF Tryz.f43 (.n none .e
 (.n none (.n none (.n (some ([⟨0, [], []⟩, ⟨1, [], []⟩, ⟨2, [], []⟩, ⟨3, [], []⟩, ⟨4, [], []⟩, ⟨6, [], []⟩, ⟨7, [], []⟩, ⟨5, [6], []⟩, ⟨8, [], []⟩, ⟨9, [], []⟩, ⟨10, [], []⟩, ⟨11, [], []⟩, ⟨12, [], []⟩, ⟨13, [], []⟩])) .e
 .e)
 .e)
 .e)))) Tryz.cF75 Tryz.cF107
noncomputable def Tryz.cF42 : Tr CF := .n (some (mkF Tryz.f42 (.n none (.n none (.n none .e
 (.n (some ([⟨0, [], []⟩, ⟨1, [], []⟩, ⟨3, [], []⟩, ⟨4, [], []⟩, ⟨5, [], []⟩, ⟨7, [], []⟩, ⟨8, [], []⟩, ⟨9, [], []⟩, ⟨11, [], []⟩, ⟨12, [], []⟩, ⟨13, [], []⟩, ⟨15, [], []⟩, ⟨16, [], []⟩, ⟨17, [], []⟩, ⟨18, [], []⟩, ⟨2, [5, 9, 13, 18], []⟩, ⟨6, [9, 13, 18], []⟩, ⟨10, [13, 18], []⟩, ⟨14, [18], []⟩, ⟨19, [], []⟩, ⟨20, [], []⟩, ⟨21, [], []⟩, ⟨22, [], []⟩])) .e
 .e))
 .e)
 .e))) Tryz.cF74 Tryz.cF106
noncomputable def Tryz.cF41 : Tr CF := .n (some (mkF Tryz.f41 (.n none .e
 (.n none (.n (some ([⟨0, [], []⟩, ⟨1, [], []⟩, ⟨2, [], []⟩, ⟨3, [], []⟩, ⟨4, [], []⟩, ⟨6, [], []⟩, ⟨5, [6], []⟩, ⟨7, [], []⟩, ⟨8, [], []⟩, ⟨9, [], []⟩, ⟨10, [], []⟩, ⟨11, [], []⟩, ⟨12, [], []⟩])) .e
 .e)
 .e)))) Tryz.cF73 Tryz.cF105
noncomputable def Tryz.cF40 : Tr CF := .n (some (mkF Tryz.f40 (.n none (.n none (.n (some ([⟨0, [], []⟩, ⟨1, [], []⟩, ⟨2, [], []⟩, ⟨3, [], []⟩, ⟨4, [], []⟩, ⟨5, [], []⟩, ⟨6, [], []⟩, ⟨7, [], []⟩, ⟨8, [], []⟩, ⟨9, [], []⟩, ⟨10, [], []⟩, ⟨11, [], []⟩])) .e
 .e)
 .e)
 .e))) Tryz.cF72 Tryz.cF104
noncomputable def Tryz.cF39 : Tr CF := .n (some (mkF Tryz.f39 (.e))) Tryz.cF71 Tryz.cF103
noncomputable def Tryz.cF38 : Tr CF := .n (some (mkF Tryz.f38 (.n none (.n none (.n none (.n (some ([⟨0, [], []⟩, ⟨1, [], []⟩, ⟨2, [], []⟩, ⟨6, [], []⟩, ⟨7, [], []⟩, ⟨3, [7], []⟩, ⟨4, [], []⟩, ⟨5, [], []⟩, ⟨8, [], []⟩, ⟨9, [], []⟩, ⟨10, [], []⟩, ⟨11, [], []⟩, ⟨12, [], []⟩])) .e
 .e)
 .e)
 .e)
 (.n none (.n (some ([⟨0, [], []⟩, ⟨1, [], []⟩, ⟨2, [], []⟩, ⟨3, [], []⟩, ⟨4, [], []⟩, ⟨5, [], []⟩, ⟨6, [], []⟩, ⟨7, [], []⟩, ⟨8, [], []⟩, ⟨9, [], []⟩, ⟨11, [], []⟩, ⟨12, [], []⟩, ⟨13, [], []⟩, ⟨14, [], []⟩, ⟨17, [], []⟩, ⟨10, [4, 14], []⟩, ⟨15, [], []⟩, ⟨16, [], []⟩])) .e
 .e)
 .e)))) Tryz.cF70 Tryz.cF102
noncomputable def Tryz.cF37 : Tr CF := .n (some (mkF Tryz.f37 (.n none (.n none (.n (some ([⟨0, [], []⟩, ⟨1, [], []⟩, ⟨2, [], []⟩, ⟨3, [], []⟩, ⟨4, [], []⟩, ⟨5, [], []⟩, ⟨6, [], []⟩, ⟨7, [], []⟩, ⟨8, [], []⟩, ⟨9, [], []⟩, ⟨10, [], []⟩, ⟨11, [], []⟩])) .e
 .e)
 .e)
 .e))) Tryz.cF69 Tryz.cF101
noncomputable def Tryz.cF36 : Tr CF := .n (some (mkF Tryz.f36 (.n none .e
 (.n none .e
 (.n none (.n none (.n (some ([⟨0, [], []⟩, ⟨1, [], []⟩, ⟨2, [], []⟩, ⟨3, [], []⟩, ⟨4, [3], []⟩, ⟨5, [], []⟩])) .e
 .e)
 .e)
 .e))))) Tryz.cF68 Tryz.cF100
noncomputable def Tryz.cF35 : Tr CF := .n (some (mkF Tryz.f35 (.e))) Tryz.cF67 Tryz.cF99
noncomputable def Tryz.cF34 : Tr CF := .n (some (mkF Tryz.f34 (.n none (.n none (.n none (.n none (.n (some ([⟨0, [], []⟩, ⟨1, [], []⟩, ⟨2, [], []⟩, ⟨6, [], []⟩, ⟨7, [], []⟩, ⟨8, [], []⟩, ⟨12, [], []⟩, ⟨3, [7, 8], []⟩, ⟨4, [], []⟩, ⟨5, [], []⟩, ⟨9, [], []⟩, ⟨10, [], []⟩, ⟨11, [], []⟩, ⟨13, [], []⟩, ⟨14, [], []⟩, ⟨15, [], []⟩, ⟨16, [], []⟩, ⟨17, [], []⟩, ⟨18, [], []⟩, ⟨19, [], []⟩, ⟨20, [], []⟩])) .e
 .e)
 .e)
 .e)
 .e)
 .e))) Tryz.cF66 Tryz.cF98
noncomputable def Tryz.cF33 : Tr CF := .n (some (mkF Tryz.f33 (.n none (.n (some ([⟨0, [], []⟩, ⟨1, [], []⟩, ⟨3, [], []⟩, ⟨4, [], []⟩, ⟨6, [], []⟩, ⟨7, [], []⟩, ⟨9, [], []⟩, ⟨10, [], []⟩, ⟨12, [], []⟩, ⟨13, [], []⟩, ⟨15, [], []⟩, ⟨16, [], []⟩, ⟨2, [4, 7, 10, 13, 16], []⟩, ⟨5, [7, 10, 13, 16], []⟩, ⟨8, [10, 13, 16], []⟩, ⟨11, [13, 16], []⟩, ⟨14, [16], []⟩, ⟨17, [], []⟩, ⟨18, [], []⟩, ⟨19, [], []⟩])) .e
 (.n (some ([⟨0, [], []⟩, ⟨1, [], []⟩, ⟨2, [], []⟩, ⟨3, [], []⟩, ⟨4, [], []⟩, ⟨5, [], []⟩, ⟨6, [], []⟩, ⟨7, [], []⟩, ⟨8, [], []⟩, ⟨9, [1], []⟩, ⟨10, [], []⟩, ⟨11, [], []⟩, ⟨12, [], []⟩])) .e
 .e))
 .e))) Tryz.cF65 Tryz.cF97
noncomputable def Tryz.cF32 : Tr CF := .n (some (mkF Tryz.f32 (.n none .e
 (.n none (.n (some ([⟨0, [], []⟩, ⟨1, [], []⟩, ⟨2, [], []⟩, ⟨3, [], []⟩, ⟨4, [], []⟩, ⟨6, [], []⟩, ⟨7, [], []⟩, ⟨8, [], []⟩, ⟨9, [], []⟩, ⟨10, [], []⟩, ⟨5, [9], []⟩, ⟨11, [9], []⟩, ⟨12, [], []⟩, ⟨13, [], []⟩, ⟨14, [], []⟩])) .e
 .e)
 .e)))) Tryz.cF64 Tryz.cF96
noncomputable def Tryz.cF31 : Tr CF := .n (some (mkF Tryz.f31 (.e))) Tryz.cF63 Tryz.cF95
noncomputable def Tryz.cF30 : Tr CF := .n (some (mkF Tryz.f30 (.e))) Tryz.cF46 Tryz.cF62
noncomputable def Tryz.cF29 : Tr CF := .n (some (mkF Tryz.f29 (.n none (.n none (.n none (.n none .e
 (.n (some ([⟨0, [], []⟩, ⟨1, [], []⟩, ⟨2, [], []⟩, ⟨3, [], []⟩, ⟨4, [], []⟩, ⟨5, [], []⟩, ⟨6, [], []⟩, ⟨7, [], []⟩, ⟨8, [], []⟩, ⟨9, [], []⟩, ⟨10, [], []⟩, ⟨11, [], []⟩, ⟨12, [], []⟩, ⟨13, [], []⟩])) .e
 .e))
 .e)
 (.n none (.n none .e
 (.n (some ([⟨0, [], []⟩, ⟨1, [], []⟩, ⟨2, [], []⟩, ⟨3, [], []⟩, ⟨4, [], []⟩, ⟨5, [], []⟩, ⟨6, [], []⟩, ⟨7, [], []⟩, ⟨8, [], []⟩, ⟨9, [], []⟩, ⟨10, [], []⟩, ⟨11, [], []⟩])) .e
 .e))
 (.n (some ([⟨0, [], []⟩, ⟨1, [], []⟩, ⟨2, [], []⟩, ⟨3, [], []⟩, ⟨4, [], []⟩, ⟨5, [], []⟩, ⟨6, [], []⟩, ⟨7, [], []⟩, ⟨8, [], []⟩, ⟨9, [], []⟩, ⟨10, [], []⟩, ⟨11, [], []⟩, ⟨12, [], []⟩, ⟨13, [], []⟩, ⟨14, [], []⟩, ⟨15, [], []⟩, ⟨16, [], []⟩, ⟨17, [], []⟩, ⟨18, [], []⟩, ⟨19, [], []⟩, ⟨20, [], []⟩, ⟨21, [], []⟩, ⟨22, [], []⟩, ⟨23, [], []⟩, ⟨24, [], []⟩, ⟨25, [], []⟩, ⟨26, [], []⟩, ⟨27, [], []⟩, ⟨28, [], []⟩])) .e
 .e)))
 (.n none .e
 (.n none .e
 (.n none (.n (some ([⟨0, [], []⟩, ⟨1, [], []⟩, ⟨2, [], []⟩, ⟨3, [], []⟩, ⟨4, [], []⟩, ⟨5, [], []⟩, ⟨6, [], []⟩, ⟨7, [], []⟩, ⟨8, [], []⟩, ⟨9, [], []⟩, ⟨10, [], []⟩, ⟨11, [], []⟩, ⟨12, [], []⟩, ⟨13, [], []⟩])) .e
 .e)
 .e)))))) Tryz.cF45 Tryz.cF61
noncomputable def Tryz.cF28 : Tr CF := .n (some (mkF Tryz.f28 (.e))) Tryz.cF44 Tryz.cF60
noncomputable def Tryz.cF27 : Tr CF := .n (some (mkF Tryz.f27 (.e))) Tryz.cF43 Tryz.cF59
noncomputable def Tryz.cF26 : Tr CF := .n (some (mkF Tryz.f26 (.e))) Tryz.cF42 Tryz.cF58
noncomputable def Tryz.cF25 : Tr CF := .n (some (mkF Tryz.f25 (.e))) Tryz.cF41 Tryz.cF57
noncomputable def Tryz.cF24 : Tr CF := .n (some (mkF Tryz.f24 (.e))) Tryz.cF40 Tryz.cF56
noncomputable def Tryz.cF23 : Tr CF := .n (some (mkF Tryz.f23 (.n none (.n none (.n none (.n (some ([⟨0, [], []⟩, ⟨1, [], []⟩, ⟨2, [], []⟩, ⟨3, [], []⟩, ⟨4, [], []⟩, ⟨8, [], []⟩, ⟨9, [], []⟩, ⟨5, [1, 9], []⟩, ⟨6, [], []⟩, ⟨7, [], []⟩, ⟨10, [1], []⟩, ⟨11, [], []⟩, ⟨12, [], []⟩, ⟨13, [], []⟩])) .e
 .e)
 .e)
 .e)
 .e))) Tryz.cF39 Tryz.cF55
noncomputable def Tryz.cF22 : Tr CF := .n (some (mkF Tryz.f22 (.e))) Tryz.cF38 Tryz.cF54
noncomputable def Tryz.cF21 : Tr CF := .n (some (mkF Tryz.f21 (.e))) Tryz.cF37 Tryz.cF53
noncomputable def Tryz.cF20 : Tr CF := .n (some (mkF Tryz.f20 (.n none (.n none .e
 (.n none (.n none (.n (some ([⟨0, [], []⟩, ⟨1, [], []⟩, ⟨2, [], []⟩, ⟨3, [], []⟩, ⟨4, [], []⟩, ⟨5, [], []⟩, ⟨6, [], []⟩, ⟨7, [], []⟩, ⟨8, [], []⟩, ⟨9, [], []⟩, ⟨10, [], []⟩, ⟨11, [6, 9], []⟩, ⟨12, [], []⟩, ⟨13, [], []⟩])) .e
 .e)
 .e)
 .e))
 (.n none (.n none (.n none (.n (some ([⟨0, [], []⟩, ⟨1, [], []⟩, ⟨2, [], []⟩, ⟨3, [], []⟩, ⟨4, [], []⟩, ⟨5, [], []⟩, ⟨6, [4], []⟩, ⟨7, [], []⟩, ⟨8, [], []⟩])) .e
 .e)
 .e)
 .e)
 .e)))) Tryz.cF36 Tryz.cF52
noncomputable def Tryz.cF19 : Tr CF := .n (some (mkF Tryz.f19 (.e))) Tryz.cF35 Tryz.cF51
noncomputable def Tryz.cF18 : Tr CF := .n (some (mkF Tryz.f18 (.n none (.n none (.n (some ([⟨0, [], []⟩, ⟨1, [], []⟩, ⟨2, [], []⟩, ⟨3, [], []⟩, ⟨4, [], []⟩, ⟨5, [], []⟩, ⟨6, [], []⟩, ⟨7, [], []⟩, ⟨8, [], []⟩, ⟨9, [], []⟩, ⟨10, [], []⟩])) .e
 .e)
 .e)
 (.n none .e
 (.n none (.n (some ([⟨0, [], []⟩, ⟨1, [], []⟩, ⟨2, [], []⟩, ⟨3, [], []⟩, ⟨4, [], []⟩, ⟨5, [], []⟩, ⟨6, [], []⟩, ⟨7, [], []⟩])) .e
 .e)
 .e))))) Tryz.cF34 Tryz.cF50
noncomputable def Tryz.cF17 : Tr CF := .n (some (mkF Tryz.f17 (.n none (.n none (.n (some ([⟨0, [], []⟩, ⟨1, [], []⟩, ⟨2, [], []⟩, ⟨3, [], []⟩, ⟨4, [], []⟩, ⟨6, [], []⟩, ⟨7, [], []⟩, ⟨8, [], []⟩, ⟨9, [], []⟩, ⟨10, [], []⟩, ⟨12, [], []⟩, ⟨13, [], []⟩, ⟨14, [], []⟩, ⟨15, [], []⟩, ⟨17, [], []⟩, ⟨18, [], []⟩, ⟨19, [], []⟩, ⟨20, [], []⟩, ⟨5, [10, 15, 20], []⟩, ⟨11, [], []⟩, ⟨16, [10, 20], []⟩, ⟨21, [], []⟩, ⟨22, [], []⟩, ⟨23, [], []⟩])) .e
 .e)
 .e)
 .e))) Tryz.cF33 Tryz.cF49
noncomputable def Tryz.cF16 : Tr CF := .n (some (mkF Tryz.f16 (.e))) Tryz.cF32 Tryz.cF48
noncomputable def Tryz.cF15 : Tr CF := .n (some (mkF Tryz.f15 (.e))) Tryz.cF31 Tryz.cF47
noncomputable def Tryz.cF14 : Tr CF := .n (some (mkF Tryz.f14 (.e))) Tryz.cF22 Tryz.cF30
noncomputable def Tryz.cF13 : Tr CF := .n (some (mkF Tryz.f13 (.e))) Tryz.cF21 Tryz.cF29
noncomputable def Tryz.cF12 : Tr CF := .n (some (mkF Tryz.f12 (.n none .e
 (.n none .e
 (.n none (.n (some ([⟨0, [], []⟩, ⟨1, [], []⟩, ⟨2, [], []⟩, ⟨3, [], []⟩, ⟨4, [], []⟩, ⟨5, [], []⟩, ⟨6, [], []⟩, ⟨7, [], []⟩, ⟨8, [], []⟩, ⟨9, [], []⟩, ⟨10, [], []⟩, ⟨11, [], []⟩])) .e
 .e)
 .e))))) Tryz.cF20 Tryz.cF28
noncomputable def Tryz.cF11 : Tr CF := .n (some (mkF Tryz.f11 (.e))) Tryz.cF19 Tryz.cF27
noncomputable def Tryz.cF10 : Tr CF := .n (some (mkF Tryz.f10 (.n none (.n none (.n (some ([⟨0, [], []⟩, ⟨1, [], []⟩, ⟨2, [], []⟩, ⟨3, [], []⟩, ⟨6, [], []⟩, ⟨7, [], []⟩, ⟨8, [], []⟩, ⟨9, [], []⟩, ⟨4, [9], []⟩, ⟨5, [], []⟩, ⟨10, [], []⟩, ⟨11, [], []⟩, ⟨12, [], []⟩, ⟨13, [], []⟩])) .e
 .e)
 .e)
 (.n none .e
 (.n none (.n none (.n (some ([⟨0, [], []⟩, ⟨1, [], []⟩, ⟨2, [], []⟩, ⟨6, [], []⟩, ⟨7, [], []⟩, ⟨3, [7], []⟩, ⟨4, [], []⟩, ⟨5, [], []⟩, ⟨8, [], []⟩, ⟨9, [], []⟩, ⟨10, [], []⟩, ⟨11, [], []⟩])) .e
 .e)
 .e)
 .e))))) Tryz.cF18 Tryz.cF26
noncomputable def Tryz.cF9 : Tr CF := .n (some (mkF Tryz.f9 (.e))) Tryz.cF17 Tryz.cF25
noncomputable def Tryz.cF8 : Tr CF := .n (some (mkF Tryz.f8 (.e))) Tryz.cF16 Tryz.cF24
noncomputable def Tryz.cF7 : Tr CF := .n (some (mkF Tryz.f7 (.e))) Tryz.cF15 Tryz.cF23
noncomputable def Tryz.cF6 : Tr CF := .n (some (mkF Tryz.f6 (.e))) Tryz.cF10 Tryz.cF14
noncomputable def Tryz.cF5 : Tr CF := .n (some (mkF Tryz.f5 (.n none (.n none (.n none (.n none (.n (some ([⟨0, [], []⟩, ⟨1, [], []⟩, ⟨2, [], []⟩, ⟨3, [], []⟩, ⟨4, [], []⟩, ⟨5, [], []⟩, ⟨6, [0], []⟩, ⟨7, [], []⟩, ⟨8, [], []⟩, ⟨9, [], []⟩, ⟨10, [], []⟩])) .e
 .e)
 .e)
 .e)
 (.n (some ([⟨0, [], []⟩, ⟨1, [0], []⟩, ⟨2, [], []⟩])) .e
 .e))
 (.n none .e
 (.n (some ([⟨0, [], []⟩, ⟨1, [], []⟩, ⟨2, [], []⟩, ⟨3, [], []⟩, ⟨4, [], []⟩, ⟨5, [], []⟩, ⟨6, [], []⟩])) .e
 .e))))) Tryz.cF9 Tryz.cF13
noncomputable def Tryz.cF4 : Tr CF := .n (some (mkF Tryz.f4 (.e))) Tryz.cF8 Tryz.cF12
noncomputable def Tryz.cF3 : Tr CF := .n (some (mkF Tryz.f3 (.e))) Tryz.cF7 Tryz.cF11
noncomputable def Tryz.cF2 : Tr CF := .n (some (mkF Tryz.f2 (.e))) Tryz.cF4 Tryz.cF6
noncomputable def Tryz.cF1 : Tr CF := .n none Tryz.cF3 Tryz.cF5
noncomputable def Tryz.cF0 : Tr CF := .n none Tryz.cF1 Tryz.cF2
noncomputable def Tryz.csE : Env := ⟨Tryz.prog, Tryz.cT0, Tryz.cF0, fun _ => false⟩
end Go.Proofs
